/- FnSupers: what is drawn, and the law. No condition. -/
import Derived.Test.YtmanmgafjbnakaaPPutSup
import Derived.Test.YtmanmgafjbnakaaPDraw
namespace Go.Proofs.Ytmanmgafjbnakaa.Pl
open Go.Proofs.Ytmanmgafjbnakaa.R Go.Proofs.Ytmanmgafjbnakaa.XU
set_option linter.unusedVariables false
set_option linter.unusedSimpArgs false

theorem wrap_u8_range (n : Int) : 0 ≤ Go.IntKind.wrap .u8 n ∧ Go.IntKind.wrap .u8 n < 256 := by
  rw [wrap_u8]
  omega
theorem xor_u8 (x y : Int) (hx0 : 0 ≤ x) (hx1 : x < 256) (hy0 : 0 ≤ y) (hy1 : y < 256) : bits .xor .u8 x y = ((x.toNat ^^^ y.toNat : Nat) : Int) := by
  obtain ⟨a, rfl⟩ := Int.eq_ofNat_of_zero_le hx0
  obtain ⟨b, rfl⟩ := Int.eq_ofNat_of_zero_le hy0
  show IntKind.u8.wrap ((BitVec.ofInt 8 (a : Int) ^^^ BitVec.ofInt 8 (b : Int)).toNat : Int) = _
  rw [BitVec.toNat_xor, BitVec.ofInt_natCast, BitVec.ofInt_natCast, BitVec.toNat_ofNat, BitVec.toNat_ofNat, Nat.mod_eq_of_lt (by omega), Nat.mod_eq_of_lt (by omega), wrap_u8]
  have := Nat.xor_lt_two_pow (n := 8) (x := a) (y := b) (by omega) (by omega)
  simp only [Int.toNat_natCast]
  omega
theorem xor_u8_ne (x y : Int) (hx0 : 0 ≤ x) (hx1 : x < 256) (hy0 : 0 < y) (hy1 : y < 256) : 0 ≤ bits .xor .u8 x y ∧ bits .xor .u8 x y < 256 ∧ bits .xor .u8 x y ≠ x := by
  rw [xor_u8 x y hx0 hx1 (by omega) hy1]
  have := Nat.xor_lt_two_pow (n := 8) (x := x.toNat) (y := y.toNat) (by omega) (by omega)
  refine ⟨by omega, by omega, fun h => ?_⟩
  have h1 : x.toNat ^^^ y.toNat = x.toNat := by omega
  have h2 := congrArg (x.toNat ^^^ ·) h1
  simp only [← Nat.xor_assoc, Nat.xor_self, Nat.zero_xor] at h2
  omega
theorem xor_u8_range (x y : Int) (hx0 : 0 ≤ x) (hx1 : x < 256) (hy0 : 0 ≤ y) (hy1 : y < 256) : 0 ≤ bits .xor .u8 x y ∧ bits .xor .u8 x y < 256 := by
  rw [xor_u8 x y hx0 hx1 hy0 hy1]
  have := Nat.xor_lt_two_pow (n := 8) (x := x.toNat) (y := y.toNat) (by omega) (by omega)
  omega
theorem isBytes_set {l : List Int} (h : isBytes l) (i : Nat) {v : Int} (v0 : 0 ≤ v) (v1 : v < 256) : isBytes (l.set i v) := fun y hy => by
  rcases List.mem_or_eq_of_mem_set hy with h' | rfl
  · exact h y h'
  · exact ⟨v0, v1⟩
theorem Bend_ok (c : List Int) (p s : Int) (b : List Int) (h : curOk c p) (hb : isBytes b) (hl : b.length ≤ 1048576) : gives (F_spec_l1Bend (c, p, s, b)) c (fun o => isBytes o ∧ o.length ≤ b.length) := by
  obtain ⟨v1, p1, s1, e1, h1, q1⟩ := Below_ok c p s 5 h
  unfold F_spec_l1Bend
  simp only [List.nil_append, List.length_nil]
  rw [if_pos (by omega), e1]
  simp only [Option.bind_some]
  cases (v1 == (0 : Int)) with
  | true =>
    simp only [cond_true]
    obtain ⟨v2, p2, s2, e2, h2, q2⟩ := Below_ok c p1 s1 (Go.IntKind.wrap .i64 ((b.length : Int) + 1)) h1
    rw [w64 (by omega) (by omega)] at e2 q2
    rw [w64 (n := (b.length : Int) + 1) (by omega) (by omega), e2]
    have := q2.2 (by omega)
    simp only [Option.bind_some]
    rw [if_pos (Int.le_refl _), if_pos q2.1, if_pos (by omega)]
    exact ⟨_, _, _, rfl, h2, isBytes_take hb _, by rw [List.length_take]; omega⟩
  | false =>
    simp only [cond_false]
    cases (v1 == (1 : Int)) with
    | true =>
      simp only [cond_true]
      by_cases hp : (b.length : Int) > 0
      · obtain ⟨v2, p2, s2, e2, h2, q2⟩ := Below_ok c p1 s1 (b.length : Int) h1
        obtain ⟨v3, p3, s3, e3, h3, q3⟩ := Below_ok c p2 s2 255 h2
        have := q2.2 (by omega)
        rw [show decide ((b.length : Int) > 0) = true from decide_eq_true hp, cond_true, e2]
        simp only [Option.bind_some]
        rw [if_pos q2.1, if_pos this, e3]
        simp only [Option.bind_some]
        rw [if_pos q2.1, if_pos this]
        have r := by_range hb v2
        have rw' := wrap_u8_range (Go.IntKind.wrap .i64 (1 + v3))
        have rx := xor_u8_range _ _ r.1 r.2 rw'.1 rw'.2
        exact ⟨_, _, _, rfl, h3, isBytes_set hb _ rx.1 rx.2, by rw [List.length_set]; exact Nat.le_refl _⟩
      · rw [show decide ((b.length : Int) > 0) = false from decide_eq_false hp, cond_false]
        exact ⟨_, _, _, rfl, h1, hb, Nat.le_refl _⟩
    | false =>
      simp only [cond_false]
      exact ⟨_, _, _, rfl, h1, hb, Nat.le_refl _⟩
/-- A step that gives a superblock. -/
def givesS (o : Option (Int × Int × Int × Int × Int × List Int × Int × Int)) (c : List Int) : Prop := ∃ a b d e f p s, o = some (a, b, d, e, f, c, p, s) ∧ curOk c p
theorem Super_ok (c : List Int) (p s : Int) (h : curOk c p) : givesS (F_spec_l18Super (c, p, s)) c := by
  obtain ⟨v1, p1, s1, e1, h1, _⟩ := Below_ok c p s 9 h
  obtain ⟨v2, p2, s2, e2, h2, _⟩ := Below_ok c p1 s1 2 h1
  obtain ⟨v3, p3, s3, e3, h3, _⟩ := Below_ok c p2 s2 200 h2
  obtain ⟨v4, p4, s4, e4, h4, _⟩ := Int_ok c p3 s3 [0, 1, 4294967295] (by simp) (by simp) h3
  obtain ⟨v5, p5, s5, e5, h5, _⟩ := Below_ok c p4 s4 50 h4
  unfold F_spec_l18Super
  rw [e1]
  simp only [Option.bind_some]
  rw [e2]
  simp only [Option.bind_some]
  rw [e3]
  simp only [Option.bind_some]
  rw [e4]
  simp only [Option.bind_some]
  rw [e5]
  exact ⟨_, _, _, _, _, _, _, rfl, h5⟩
theorem Any_ok (c : List Int) (p s : Int) (h : curOk c p) : givesS (F_spec_l18Any (c, p, s)) c := by
  obtain ⟨a, b, d, e, f, p1, s1, e1, h1⟩ := Super_ok c p s h
  obtain ⟨v2, p2, s2, e2, h2, _⟩ := Below_ok c p1 s1 10 h1
  have I : ∀ L : List Int, 0 < L.length → L.length ≤ 1048576 → ∃ v p3 s3, F_spec_l1Int (c, p2, s2, L) = some (v, c, p3, s3) ∧ curOk c p3 := fun L a b => by
    obtain ⟨v3, p3, s3, e3, h3, _⟩ := Int_ok c p2 s2 L a b h2
    exact ⟨v3, p3, s3, e3, h3⟩
  unfold F_spec_l18Any
  rw [e1]
  simp only [Option.bind_some]
  rw [e2]
  simp only [Option.bind_some]
  cases (v2 == (0 : Int)) with
  | true =>
    obtain ⟨v3, p3, s3, e3, h3⟩ := I [0, 60000, 60001] (by simp) (by simp)
    rw [cond_true, e3]
    exact ⟨_, _, _, _, _, _, _, rfl, h3⟩
  | false =>
    rw [cond_false]
    cases (v2 == (1 : Int)) with
    | true =>
      obtain ⟨v3, p3, s3, e3, h3⟩ := I [-1, 2] (by simp) (by simp)
      rw [cond_true, e3]
      exact ⟨_, _, _, _, _, _, _, rfl, h3⟩
    | false =>
      rw [cond_false]
      cases (v2 == (2 : Int)) with
      | true =>
        obtain ⟨v3, p3, s3, e3, h3⟩ := I [-1, 1680, 1681] (by simp) (by simp)
        rw [cond_true, e3]
        exact ⟨_, _, _, _, _, _, _, rfl, h3⟩
      | false =>
        rw [cond_false]
        cases (v2 == (3 : Int)) with
        | true =>
          obtain ⟨v3, p3, s3, e3, h3⟩ := I [-1, 4294967296] (by simp) (by simp)
          rw [cond_true, e3]
          exact ⟨_, _, _, _, _, _, _, rfl, h3⟩
        | false =>
          rw [cond_false]
          cases (v2 == (4 : Int)) with
          | true =>
            obtain ⟨v3, p3, s3, e3, h3⟩ := I [0, 60000, 60001] (by simp) (by simp)
            rw [cond_true, e3]
            exact ⟨_, _, _, _, _, _, _, rfl, h3⟩
          | false => exact ⟨_, _, _, _, _, _, _, rfl, h2⟩
theorem cur0 (x : List Int) (hx : x.length ≤ 1099511627776) : curOk x 0 := ⟨hx, Int.le_refl _, by omega⟩
theorem DrawPutSuper_ok (x : List Int) (hx : x.length ≤ 1099511627776) : ∃ a b c d e, F_spec_DrawPutSuper x = some (a, b, c, d, e) := by
  obtain ⟨s, e0⟩ := New_ok x hx
  obtain ⟨a, b, d, e, f, p1, s1, e1, h1⟩ := Any_ok x 0 s (cur0 x hx)
  unfold F_spec_DrawPutSuper
  rw [e0]
  simp only [Option.bind_some]
  rw [e1]
  exact ⟨_, _, _, _, _, rfl⟩
theorem DrawPartAt_ok (x : List Int) (hx : x.length ≤ 1099511627776) : ∃ a b, F_spec_DrawPartAt x = some (a, b) := by
  obtain ⟨s, e0⟩ := New_ok x hx
  obtain ⟨v1, p1, s1, e1, h1, _⟩ := Int_ok x 0 s [0, 1, 2, -1] (by simp) (by simp) (cur0 x hx)
  obtain ⟨v2, p2, s2, e2, h2, _⟩ := Int_ok x p1 s1 [0, 1, 23, 24, -1] (by simp) (by simp) h1
  unfold F_spec_DrawPartAt
  rw [e0]
  simp only [Option.bind_some]
  rw [e1]
  simp only [Option.bind_some]
  rw [e2]
  exact ⟨_, _, rfl⟩
theorem DrawGetSuper_ok (x : List Int) (hx : x.length ≤ 1099511627776) : ∃ l, F_spec_DrawGetSuper x = some l ∧ isBytes l ∧ l.length ≤ 1000 := by
  obtain ⟨s, e0⟩ := New_ok x hx
  obtain ⟨a, b, d, e, f, p1, s1, e1, h1⟩ := Super_ok x 0 s (cur0 x hx)
  have hP : ∃ l, F_spec_PutSuper (a, b, d, e, f) = some l ∧ isBytes l ∧ l.length ≤ 15 := by
    rw [spec_PutSuper_eq]
    refine ⟨_, rfl, ?_, ?_⟩
    · split
      · exact enc_bytes a b d e f
      · intro y hy
        simp at hy
    · split
      · exact Nat.le_of_eq (enc_length a b d e f)
      · simp
  obtain ⟨l, el, hl, hll⟩ := hP
  obtain ⟨o, p2, s2, e2, h2, hob, hol⟩ := Bend_ok x p1 s1 l h1 hl (by omega)
  obtain ⟨v3, p3, s3, e3, h3, _⟩ := Once_ok x p2 s2 6 h2
  unfold F_spec_DrawGetSuper
  rw [e0]
  simp only [Option.bind_some]
  rw [e1]
  simp only [Option.bind_some]
  rw [el]
  simp only [Option.bind_some]
  rw [e2]
  simp only [Option.bind_some]
  rw [e3]
  simp only [Option.bind_some]
  cases v3 with
  | false =>
    simp only [cond_false, Option.bind_some]
    exact ⟨o, rfl, hob, by omega⟩
  | true =>
    simp only [cond_true, Option.bind_some]
    by_cases h15 : o.length = 15
    · obtain ⟨v4, p4, s4, e4, h4, q4⟩ := Below_ok x p3 s3 11 h3
      obtain ⟨v5, p5, s5, e5, h5, _⟩ := Int_ok x p4 s4 [0, 1, 2, 255] (by simp) (by simp) h4
      have := q4.2 (by omega)
      have e11 : Int.toNat 11 = 11 := rfl
      have hlt : ((o.take 11).length : Int) = 11 := by rw [List.length_take]; omega
      rw [show (((o.length : Nat) : Int) == (15 : Int)) = true by simp [h15], cond_true, if_pos (Int.le_refl _), if_pos (by omega), if_pos (by omega), e4]
      simp only [Option.bind_some]
      rw [e5]
      simp only [Option.bind_some, e11]
      have rw' := wrap_u8_range v5
      have hsb : isBytes ((o.take 11).set v4.toNat (Go.IntKind.wrap .u8 v5)) := isBytes_set (isBytes_take hob 11) _ rw'.1 rw'.2
      have hsl : ((o.take 11).set v4.toNat (Go.IntKind.wrap .u8 v5)).length ≤ 11 := by rw [List.length_set, List.length_take]; omega
      rw [if_pos q4.1, if_pos (by rw [hlt]; exact this), spec_Crc_eq _ hsb (by omega)]
      simp only [Option.bind_some]
      rw [l17Four_eq _ _ (by omega)]
      refine ⟨_, rfl, isBytes_append hsb (four_bytes _), ?_⟩
      rw [List.length_append]
      simp only [four, List.length_cons, List.length_nil]
      omega
    · rw [show (((o.length : Nat) : Int) == (15 : Int)) = false by simp; omega, cond_false]
      exact ⟨o, rfl, hob, by omega⟩
theorem at_ok (x : List Int) (i : Int) (hb : isBytes x) (hx : x.length ≤ 1048576) (h0 : 0 ≤ i) (h1 : i ≤ 1000) : ∃ v, F_laws_at (x, i) = some v ∧ 0 ≤ v := by
  unfold F_laws_at
  simp only [Bool.cond_eq_ite, decide_eq_true_eq]
  by_cases h : i < (x.length : Int)
  · rw [if_pos h, if_pos h0, if_pos h, rd_by, w64_by hb]
    exact ⟨_, rfl, (by_range hb i).1⟩
  · rw [if_neg h, w64 (n := i * 31) (by omega) (by omega), w64 (n := (x.length : Int) * 7) (by omega) (by omega), w64 (n := i * 31 + (x.length : Int) * 7) (by omega) (by omega), Int.tmod_eq_emod_of_nonneg (by omega)]
    exact ⟨_, rfl, by omega⟩
theorem PartAt_eq (a b : Int) : F_impl_PartAt (a, b) = F_spec_PartAt (a, b) := by
  unfold F_impl_PartAt F_spec_PartAt
  simp only [within_eq, l1In_eq]
theorem PartAt_some (a b : Int) : ∃ v, F_spec_PartAt (a, b) = some v := by
  unfold F_spec_PartAt
  simp only [l1In_eq, Option.bind_some]
  cases inR a 0 1
  · exact ⟨_, rfl⟩
  · cases inR b 0 23
    · exact ⟨_, rfl⟩
    · exact ⟨_, rfl⟩
theorem law_Supers (x : List Int) (hb : isBytes x) : F_laws_FnSupers x = some true := by
  unfold F_laws_FnSupers F_laws_big
  simp only [Option.bind_some]
  by_cases hbig : (x.length : Int) > 1048576
  · rw [decide_eq_true hbig]
    rfl
  · rw [decide_eq_false hbig, cond_false]
    have hx : x.length ≤ 1048576 := by omega
    obtain ⟨a, b, c, d, e, e1⟩ := DrawPutSuper_ok x (by omega)
    obtain ⟨l, e2, hl, hll⟩ := DrawGetSuper_ok x (by omega)
    obtain ⟨u, v, e3⟩ := DrawPartAt_ok x (by omega)
    obtain ⟨w, e4⟩ := PartAt_some u v
    rw [e1]
    simp only [Option.bind_some]
    rw [impl_PutSuper_eq]
    simp only [Option.bind_some]
    rw [e2]
    simp only [Option.bind_some]
    rw [impl_GetSuper_eq l hl (by omega)]
    simp only [Option.bind_some]
    rw [spec_GetSuper_eq l hl (by omega)]
    simp only [Option.bind_some]
    rw [e3]
    simp only [Option.bind_some, beq_self_eq_true, Bool.not_true, cond_false, impl_SuperOk_eq, spec_SuperOk_eq, PartAt_eq, e4, bne_self_eq_false]
    -- what was read is written alike
    have hread : (bif (supR l).2.2.2.2.2 then (F_impl_PutSuper ((supR l).1, (supR l).2.1, (supR l).2.2.1, (supR l).2.2.2.1, (supR l).2.2.2.2.1)).bind fun r10 => some (!((ByteArray.toList (textOf r10)) == (ByteArray.toList (textOf l)))) else some false) = some false := by
      by_cases hC : supC l
      · unfold supR
        rw [if_pos hC]
        simp only [cond_true]
        rw [impl_PutSuper_eq, if_pos hC.2.2, enc_dec l hl hC]
        simp
      · unfold supR
        rw [if_neg hC]
        rfl
    rw [hread]
    simp only [Option.bind_some, cond_false]
    cases hs : supOk a b c d e with
    | false => rfl
    | true =>
      simp only [Bool.not_true, cond_false, if_true]
      have hbe := enc_bytes a b c d e
      have hle := enc_length a b c d e
      rw [impl_GetSuper_eq _ hbe (by omega)]
      simp only [Option.bind_some]
      obtain ⟨y, e5, y0⟩ := at_ok x 2 hb hx (by omega) (by omega)
      obtain ⟨z, e6, z0⟩ := at_ok x 3 hb hx (by omega) (by omega)
      rw [e5]
      simp only [Option.bind_some, hle]
      have hy : Int.tmod y ((15 : Nat) : Int) = y % 15 := Int.tmod_eq_emod_of_nonneg y0
      have hz : Int.tmod z 255 = z % 255 := Int.tmod_eq_emod_of_nonneg z0
      rw [hy, if_neg (by omega), if_pos (by omega), if_pos (by omega), e6]
      simp only [Option.bind_some]
      rw [hz, w64 (n := 1 + z % 255) (by omega) (by omega), wrap_u8, if_pos (by omega), if_pos (by omega), rd_by]
      have r := by_range hbe (y % 15)
      have hx3 := xor_u8_ne (by_ (enc a b c d e) (y % 15)) ((1 + z % 255) % 256) r.1 r.2 (by omega) (by omega)
      have hdec := dec_enc a b c d e hs
      have hC : supC (enc a b c d e) := by
        by_cases hC : supC (enc a b c d e)
        · exact hC
        · unfold supR at hdec
          rw [if_neg hC] at hdec
          simp at hdec
      have hch := changed _ hbe hC (y % 15).toNat _ (by omega) hx3.1 hx3.2.1 (by unfold by_ at hx3 ⊢; exact hx3.2.2)
      rw [impl_GetSuper_eq _ (isBytes_set hbe _ hx3.1 hx3.2.1) (by rw [List.length_set]; omega)]
      have hbad : supR ((enc a b c d e).set (y % 15).toNat (bits .xor .u8 (by_ (enc a b c d e) (y % 15)) ((1 + z % 255) % 256))) = (0, 0, 0, 0, 0, false) := by
        unfold supR
        rw [if_neg hch]
      rw [hbad, hdec]
      simp
end Go.Proofs.Ytmanmgafjbnakaa.Pl
