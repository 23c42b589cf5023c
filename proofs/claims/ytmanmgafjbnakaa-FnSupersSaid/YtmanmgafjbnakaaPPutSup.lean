/- A superblock as bytes: both sides; there and back; one byte changed. No condition. -/
import Derived.Test.YtmanmgafjbnakaaPGetSuper
import Derived.Test.YtmanmgafjbnakaaPCrc1
import Derived.Test.YtmanmgafjbnakaaPLoops
namespace Go.Proofs.Ytmanmgafjbnakaa.Pl
open Go.Proofs.Ytmanmgafjbnakaa.R Go.Proofs.Ytmanmgafjbnakaa.XU
set_option linter.unusedVariables false
set_option linter.unusedSimpArgs false

theorem wrap_u8 (n : Int) : Go.IntKind.wrap .u8 n = n % 256 := by
  simp [Go.IntKind.wrap, Go.IntKind.bits, Go.IntKind.signed]
theorem fdiv8 (x : Int) : Int.fdiv x (2 ^ (min (Int.toNat (8 : Int)) (Go.IntKind.bits .i64))) = x / 256 := by
  rw [sh8, Int.fdiv_eq_ediv_of_nonneg _ (by omega)]
theorem fdiv16 (x : Int) : Int.fdiv x (2 ^ (min (Int.toNat (16 : Int)) (Go.IntKind.bits .i64))) = x / 65536 := by
  rw [sh16, Int.fdiv_eq_ediv_of_nonneg _ (by omega)]
theorem fdiv24 (x : Int) : Int.fdiv x (2 ^ (min (Int.toNat (24 : Int)) (Go.IntKind.bits .i64))) = x / 16777216 := by
  rw [sh24, Int.fdiv_eq_ediv_of_nonneg _ (by omega)]
def two (x : Int) : List Int := [x / 256 % 256, x % 256]
def four (x : Int) : List Int := [x / 16777216 % 256, x / 65536 % 256, x / 256 % 256, x % 256]
theorem spec_PutW_eq (l : List Int) (x : Int) (hl : l.length ≤ 1048576) : F_spec_PutW (l, x) = some (l ++ two x) := by
  unfold F_spec_PutW
  simp only [wrap_u8, fdiv8, List.nil_append, List.length_nil, List.length_cons]
  rw [if_pos (by omega), if_pos (by omega)]
  rfl
theorem joined2 (a b : List Int) (h : a.length + b.length ≤ 2097152) : F_impl_joined [a, b] = some (a ++ b) := by
  have hF : FUEL = (FUEL - 3) + 1 + 1 + 1 := by
    have := FUEL_eq
    omega
  unfold F_impl_joined L_impl_joined_3
  rw [hF]
  have s0 : ∀ again, S_impl_joined_3 (fun x1 => some x1) again ([a, b], (2 : Int), (0 : Int), ([] : List E_u8)) = again ([a, b], 2, 1, a) := by
    intro again
    unfold S_impl_joined_3
    have hw : Go.IntKind.wrap .i64 (0 + 1) = 1 := w64 (by omega) (by omega)
    have hr : rd_s_u8 [a, b] 0 = a := rfl
    simp only [hw, hr, List.length_nil, List.length_cons, List.nil_append]
    rw [if_pos (by omega), if_pos (by omega), if_pos (by omega)]
    rfl
  have s1 : ∀ again, S_impl_joined_3 (fun x1 => some x1) again ([a, b], (2 : Int), (1 : Int), a) = again ([a, b], 2, 2, a ++ b) := by
    intro again
    unfold S_impl_joined_3
    have hw : Go.IntKind.wrap .i64 (1 + 1) = 2 := w64 (by omega) (by omega)
    have hr : rd_s_u8 [a, b] 1 = b := rfl
    simp only [hw, hr, List.length_cons, List.length_nil]
    rw [if_pos (by omega), if_pos (by omega), if_pos (by omega)]
    rfl
  have s2 : ∀ again, S_impl_joined_3 (fun x1 => some x1) again ([a, b], (2 : Int), (2 : Int), a ++ b) = some (a ++ b) := by
    intro again
    unfold S_impl_joined_3
    rfl
  rw [show ((List.length [a, b] : Nat) : Int) = 2 from rfl, iter, s0, iter, s1, iter, s2]
theorem impl_PutW_eq (l : List Int) (x : Int) (hl : l.length ≤ 1048576) : F_impl_PutW (l, x) = some (l ++ two x) := by
  unfold F_impl_PutW
  simp only [wrap_u8, fdiv8, and255]
  rw [joined2 l _ (by simp only [List.length_cons, List.length_nil]; omega)]
  simp only [Option.bind_some, two]
  rw [show x / 256 % 256 % 256 = x / 256 % 256 by omega, show x % 256 % 256 = x % 256 by omega]
theorem put4_eq (l : List Int) (x : Int) (hl : l.length ≤ 1000000) : F_impl_put4 (l, x) = some (l ++ four x) := by
  unfold F_impl_put4
  simp only [fdiv16]
  rw [impl_PutW_eq l _ (by omega)]
  simp only [Option.bind_some]
  rw [impl_PutW_eq _ _ (by simp only [two, List.length_append, List.length_cons, List.length_nil]; omega)]
  simp only [Option.bind_some, two, four, List.append_assoc, List.cons_append, List.nil_append]
  rw [show x / 65536 / 256 % 256 = x / 16777216 % 256 by omega]
theorem l17Four_eq (l : List Int) (x : Int) (hl : l.length ≤ 1048576) : F_spec_l17Four (l, x) = some (l ++ four x) := by
  unfold F_spec_l17Four
  simp only [wrap_u8, fdiv8, fdiv16, fdiv24, List.nil_append, List.length_nil, List.length_cons]
  rw [if_pos (by omega), if_pos (by omega)]
  rfl
def enc11 (a b c d e : Int) : List Int := [a / 256 % 256, a % 256, b % 256, c / 256 % 256, c % 256, d / 16777216 % 256, d / 65536 % 256, d / 256 % 256, d % 256, e / 256 % 256, e % 256]
def enc (a b c d e : Int) : List Int := enc11 a b c d e ++ four (crc (enc11 a b c d e))
theorem enc11_bytes (a b c d e : Int) : isBytes (enc11 a b c d e) := by
  intro x hx
  simp only [enc11, List.mem_cons, List.mem_nil_iff, or_false] at hx
  rcases hx with h | h | h | h | h | h | h | h | h | h | h <;> subst h <;> omega
theorem four_bytes (x : Int) : isBytes (four x) := by
  intro y hy
  simp only [four, List.mem_cons, List.mem_nil_iff, or_false] at hy
  rcases hy with h | h | h | h <;> subst h <;> omega
theorem isBytes_append {l m : List Int} (h : isBytes l) (h' : isBytes m) : isBytes (l ++ m) := fun x hx => (List.mem_append.1 hx).elim (h x) (h' x)
theorem enc_bytes (a b c d e : Int) : isBytes (enc a b c d e) := isBytes_append (enc11_bytes a b c d e) (four_bytes _)
theorem enc_length (a b c d e : Int) : (enc a b c d e).length = 15 := rfl
theorem impl_PutSuper_eq (a b c d e : Int) : F_impl_PutSuper (a, b, c, d, e) = some (if supOk a b c d e = true then enc a b c d e else []) := by
  unfold F_impl_PutSuper
  simp only [impl_SuperOk_eq, Option.bind_some]
  cases supOk a b c d e with
  | false => rfl
  | true =>
    simp only [Bool.not_true, cond_false, if_true, wrap_u8]
    rw [impl_PutW_eq [] a (by simp)]
    simp only [Option.bind_some, List.nil_append]
    rw [if_pos (by simp [two]), impl_PutW_eq _ c (by simp [two])]
    simp only [Option.bind_some]
    rw [put4_eq _ d (by simp [two])]
    simp only [Option.bind_some]
    rw [impl_PutW_eq _ e (by simp [two, four])]
    simp only [Option.bind_some]
    rw [show two a ++ [b % 256] ++ two c ++ four d ++ two e = enc11 a b c d e from rfl, impl_Crc_eq _ (enc11_bytes a b c d e) (by simp [enc11])]
    simp only [Option.bind_some]
    rw [put4_eq _ _ (by simp [enc11])]
    rfl
theorem spec_PutSuper_eq (a b c d e : Int) : F_spec_PutSuper (a, b, c, d, e) = some (if supOk a b c d e = true then enc a b c d e else []) := by
  unfold F_spec_PutSuper
  simp only [spec_SuperOk_eq, Option.bind_some]
  cases supOk a b c d e with
  | false => rfl
  | true =>
    simp only [Bool.not_true, cond_false, if_true, wrap_u8]
    rw [spec_PutW_eq [] a (by simp)]
    simp only [Option.bind_some, List.nil_append]
    rw [if_pos (by simp [two]), spec_PutW_eq _ c (by simp [two])]
    simp only [Option.bind_some]
    rw [l17Four_eq _ d (by simp [two])]
    simp only [Option.bind_some]
    rw [spec_PutW_eq _ e (by simp [two, four])]
    simp only [Option.bind_some]
    rw [show two a ++ [b % 256] ++ two c ++ four d ++ two e = enc11 a b c d e from rfl, spec_Crc_eq _ (enc11_bytes a b c d e) (by simp [enc11])]
    simp only [Option.bind_some]
    rw [l17Four_eq _ _ (by simp [enc11])]
    rfl
theorem dec_enc (a b c d e : Int) (h : supOk a b c d e = true) : supR (enc a b c d e) = (a, b, c, d, e, true) := by
  have h' := h
  simp only [supOk, Bool.and_eq_true, inR_iff] at h'
  obtain ⟨⟨⟨⟨⟨a0, a1⟩, ⟨b0, b1⟩⟩, ⟨c0, c1⟩⟩, ⟨d0, d1⟩⟩, ⟨e0, e1⟩⟩ := h'
  have hr := crc_range _ (enc11_bytes a b c d e)
  have w0 : w2 (enc a b c d e) 0 = a := by
    show a / 256 % 256 * 256 + a % 256 = a
    omega
  have y2 : by_ (enc a b c d e) 2 = b := by
    show b % 256 = b
    omega
  have w3 : w2 (enc a b c d e) 3 = c := by
    show c / 256 % 256 * 256 + c % 256 = c
    omega
  have w9 : w2 (enc a b c d e) 9 = e := by
    show e / 256 % 256 * 256 + e % 256 = e
    omega
  have g5 : get4 (enc a b c d e) 5 = d := by
    show d / 16777216 % 256 * 16777216 + d / 65536 % 256 * 65536 + d / 256 % 256 * 256 + d % 256 = d
    omega
  have g11 : get4 (enc a b c d e) 11 = crc ((enc a b c d e).take 11) := by
    show crc (enc11 a b c d e) / 16777216 % 256 * 16777216 + crc (enc11 a b c d e) / 65536 % 256 * 65536 + crc (enc11 a b c d e) / 256 % 256 * 256 + crc (enc11 a b c d e) % 256 = crc (enc11 a b c d e)
    omega
  unfold supR
  rw [if_pos ⟨enc_length a b c d e, g11, by rw [w0, y2, w3, g5, w9]; exact h⟩, w0, y2, w3, g5, w9]
theorem enc_dec (l : List Int) (hb : isBytes l) (h : supC l) : enc (w2 l 0) (by_ l 2) (w2 l 3) (get4 l 5) (w2 l 9) = l := by
  obtain ⟨hlen, hc, hs⟩ := h
  match l, hlen with
  | [x0, x1, x2, x3, x4, x5, x6, x7, x8, x9, x10, x11, x12, x13, x14], _ =>
    have r : ∀ i : Int, 0 ≤ by_ [x0, x1, x2, x3, x4, x5, x6, x7, x8, x9, x10, x11, x12, x13, x14] i ∧ by_ [x0, x1, x2, x3, x4, x5, x6, x7, x8, x9, x10, x11, x12, x13, x14] i < 256 := fun i => by_range hb i
    have r0 : 0 ≤ x0 ∧ x0 < 256 := r 0
    have r1 : 0 ≤ x1 ∧ x1 < 256 := r 1
    have r2 : 0 ≤ x2 ∧ x2 < 256 := r 2
    have r3 : 0 ≤ x3 ∧ x3 < 256 := r 3
    have r4 : 0 ≤ x4 ∧ x4 < 256 := r 4
    have r5 : 0 ≤ x5 ∧ x5 < 256 := r 5
    have r6 : 0 ≤ x6 ∧ x6 < 256 := r 6
    have r7 : 0 ≤ x7 ∧ x7 < 256 := r 7
    have r8 : 0 ≤ x8 ∧ x8 < 256 := r 8
    have r9 : 0 ≤ x9 ∧ x9 < 256 := r 9
    have r10 : 0 ≤ x10 ∧ x10 < 256 := r 10
    have r11 : 0 ≤ x11 ∧ x11 < 256 := r 11
    have r12 : 0 ≤ x12 ∧ x12 < 256 := r 12
    have r13 : 0 ≤ x13 ∧ x13 < 256 := r 13
    have r14 : 0 ≤ x14 ∧ x14 < 256 := r 14
    have hc' : x11 * 16777216 + x12 * 65536 + x13 * 256 + x14 = crc [x0, x1, x2, x3, x4, x5, x6, x7, x8, x9, x10] := hc
    have he : enc11 (x0 * 256 + x1) x2 (x3 * 256 + x4) (x5 * 16777216 + x6 * 65536 + x7 * 256 + x8) (x9 * 256 + x10) = [x0, x1, x2, x3, x4, x5, x6, x7, x8, x9, x10] := by
      unfold enc11
      rw [show (x0 * 256 + x1) / 256 % 256 = x0 by omega, show (x0 * 256 + x1) % 256 = x1 by omega, show x2 % 256 = x2 by omega, show (x3 * 256 + x4) / 256 % 256 = x3 by omega, show (x3 * 256 + x4) % 256 = x4 by omega,
        show (x5 * 16777216 + x6 * 65536 + x7 * 256 + x8) / 16777216 % 256 = x5 by omega, show (x5 * 16777216 + x6 * 65536 + x7 * 256 + x8) / 65536 % 256 = x6 by omega, show (x5 * 16777216 + x6 * 65536 + x7 * 256 + x8) / 256 % 256 = x7 by omega, show (x5 * 16777216 + x6 * 65536 + x7 * 256 + x8) % 256 = x8 by omega,
        show (x9 * 256 + x10) / 256 % 256 = x9 by omega, show (x9 * 256 + x10) % 256 = x10 by omega]
    show enc (x0 * 256 + x1) x2 (x3 * 256 + x4) (x5 * 16777216 + x6 * 65536 + x7 * 256 + x8) (x9 * 256 + x10) = _
    unfold enc
    rw [he, ← hc']
    unfold four
    rw [show (x11 * 16777216 + x12 * 65536 + x13 * 256 + x14) / 16777216 % 256 = x11 by omega, show (x11 * 16777216 + x12 * 65536 + x13 * 256 + x14) / 65536 % 256 = x12 by omega, show (x11 * 16777216 + x12 * 65536 + x13 * 256 + x14) / 256 % 256 = x13 by omega, show (x11 * 16777216 + x12 * 65536 + x13 * 256 + x14) % 256 = x14 by omega]
    rfl
theorem by_set (l : List Int) (i : Nat) (v j : Int) (hj : j.toNat ≠ i) : by_ (l.set i v) j = by_ l j := by
  unfold by_
  rw [List.getD_eq_getElem?_getD, List.getD_eq_getElem?_getD, List.getElem?_set_ne (fun e => hj e.symm)]
theorem by_set_self (l : List Int) (i : Nat) (v : Int) (hi : i < l.length) : by_ (l.set i v) (i : Int) = v := by
  unfold by_
  rw [List.getD_eq_getElem?_getD, Int.toNat_natCast, List.getElem?_set_self hi]
  rfl
/-- One byte changed: it is no superblock. -/
theorem changed (l : List Int) (hb : isBytes l) (h : supC l) (i : Nat) (v : Int) (hi : i < 15) (v0 : 0 ≤ v) (v1 : v < 256) (hv : v ≠ l.getD i 0) : ¬ supC (l.set i v) := by
  obtain ⟨hlen, hc, hs⟩ := h
  rintro ⟨_, hc', _⟩
  have hbi : by_ l (i : Int) = l.getD i 0 := by unfold by_; rw [Int.toNat_natCast]
  have hself := by_set_self l i v (by omega)
  by_cases h11 : i < 11
  · have g : get4 (l.set i v) 11 = get4 l 11 := by
      unfold get4
      rw [by_set l i v 11 (by omega), by_set l i v (11 + 1) (by omega), by_set l i v (11 + 2) (by omega), by_set l i v (11 + 3) (by omega)]
    have t : (l.set i v).take 11 = (l.take 11).set i v := by rw [List.take_set]
    rw [g, t, hc] at hc'
    have := crc_set (l.take 11) i v (isBytes_take hb 11) (by rw [List.length_take]; omega) v0 v1 hc'.symm
    apply hv
    rw [← this, List.getD_eq_getElem?_getD, List.getD_eq_getElem?_getD, List.getElem?_take, if_pos h11]
  · have t : (l.set i v).take 11 = l.take 11 := List.take_set_of_le (by omega)
    rw [t, ← hc] at hc'
    unfold get4 at hc'
    have q11 := by_range hb 11
    have q12 := by_range hb (11 + 1)
    have q13 := by_range hb (11 + 2)
    have q14 := by_range hb (11 + 3)
    have hcase : i = 11 ∨ i = 12 ∨ i = 13 ∨ i = 14 := by omega
    rcases hcase with rfl | rfl | rfl | rfl
    · rw [show ((11 : Nat) : Int) = 11 from rfl] at hbi hself
      rw [hself, by_set l 11 v (11 + 1) (by decide), by_set l 11 v (11 + 2) (by decide), by_set l 11 v (11 + 3) (by decide)] at hc'
      omega
    · rw [show ((12 : Nat) : Int) = 11 + 1 from rfl] at hbi hself
      rw [hself, by_set l 12 v 11 (by decide), by_set l 12 v (11 + 2) (by decide), by_set l 12 v (11 + 3) (by decide)] at hc'
      omega
    · rw [show ((13 : Nat) : Int) = 11 + 2 from rfl] at hbi hself
      rw [hself, by_set l 13 v 11 (by decide), by_set l 13 v (11 + 1) (by decide), by_set l 13 v (11 + 3) (by decide)] at hc'
      omega
    · rw [show ((14 : Nat) : Int) = 11 + 3 from rfl] at hbi hself
      rw [hself, by_set l 14 v 11 (by decide), by_set l 14 v (11 + 1) (by decide), by_set l 14 v (11 + 2) (by decide)] at hc'
      omega
end Go.Proofs.Ytmanmgafjbnakaa.Pl
