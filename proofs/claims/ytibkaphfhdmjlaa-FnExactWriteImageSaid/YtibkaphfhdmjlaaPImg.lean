/- Dev, MarkDev, Img. No condition. -/
import Derived.Test.YtibkaphfhdmjlaaPCrc
/- Devices: sizes, copies, comparisons, what is right. No condition. -/
namespace Go.Proofs.Ytibkaphfhdmjlaa.Pl
open Go.Proofs.Ytibkaphfhdmjlaa.R Go.Proofs.Ytibkaphfhdmjlaa.XJ
set_option linter.unusedVariables false
set_option linter.unusedSimpArgs false

theorem szByteS_ok (l : List E_u8) (hl : l.length ≤ maxLen) (n : Int) (hn0 : 0 ≤ n) (hn1 : n ≤ 1048576) : szOk n (l.length : Nat) (F_laws_szByteS (l, n)) := sz_flat n l.length hn0 hn1 hl
theorem szByteSS_ok (l : List E_s_u8) (hl : l.length ≤ maxLen) (hm : ∀ a ∈ l, List.length a ≤ maxLen) (n : Int) (hn0 : 0 ≤ n) (hn1 : n ≤ 1048576) : szOk n ((l.length : Int) + sumW (fun a : E_s_u8 => (List.length a : Int)) l) (F_laws_szByteSS (l, n)) := by
  simp only [maxLen] at hl
  unfold F_laws_szByteSS L_laws_szByteSS_5
  simp only [Bool.cond_eq_ite, decide_eq_true_eq]
  rw [w64 (n := n - l.length) (by omega) (by omega)]
  by_cases h : n - (l.length : Int) < 0
  · rw [if_pos h]
    exact ⟨-1, rfl, .inl (by omega)⟩
  · rw [if_neg h]
    have hs : ∀ again (n i r : Int), 0 ≤ i → i < (l.length : Int) → F_laws_szByteS (l.getD i.toNat z_s_u8, n) = some r → S_laws_szByteSS_5 (fun x2 => some x2.2) (fun x3 => some x3) again (l, n, i) = if r < 0 then some (-1 : Int) else again (l, r, i + 1) := by
      intro again n i r h0 h1 hr
      unfold S_laws_szByteSS_5
      have hw : Go.IntKind.wrap .i64 (i + 1) = i + 1 := w64 (by omega) (by omega)
      have hr' : F_laws_szByteS ((rd_s_u8 l i), n) = some r := hr
      simp only [Bool.cond_eq_ite, decide_eq_true_eq, h0, h1, if_true, hw, hr', Option.bind_some]
    have hd : ∀ again (n i : Int), ¬ i < (l.length : Int) → S_laws_szByteSS_5 (fun x2 => some x2.2) (fun x3 => some x3) again (l, n, i) = some n := by
      intro again n i hi
      unfold S_laws_szByteSS_5
      simp only [Bool.cond_eq_ite, decide_eq_true_eq, if_neg hi]
    rcases sz_loop z_s_u8 (fun a : E_s_u8 => (List.length a : Int)) (fun a n => F_laws_szByteS (a, n)) (step := S_laws_szByteSS_5 (fun x2 => some x2.2) (fun x3 => some x3)) (fun x2 => some x2.2) (fun x3 => some x3) l (by omega) (fun a => by exact Int.natCast_nonneg _) (fun a ha n h0 h1 => szByteS_ok a (hm a ha) n h0 h1) hs hd (n - l.length) (by omega) (by omega) with ⟨r, e⟩ | ⟨r, r0, r1, e⟩
    · rw [e]
      exact ⟨-1, rfl, .inl (by omega)⟩
    · rw [e]
      exact ⟨r, rfl, .inr ⟨r0, by omega⟩⟩
theorem szWr_ok (a : E_LWr) (hl : List.length a.2 ≤ maxLen) (n : Int) (hn0 : 0 ≤ n) (hn1 : n ≤ 1048576) : szOk n (List.length a.2 : Nat) (F_laws_szWr (a.1, a.2, n)) := by
  obtain ⟨r, hr, hc⟩ := szByteS_ok a.2 hl n hn0 hn1
  unfold F_laws_szWr
  simp only [hr, Option.bind_some, Bool.cond_eq_ite, decide_eq_true_eq]
  rcases hc with hc | ⟨h0, h1⟩
  · rw [if_pos hc]
    exact ⟨-1, rfl, .inl (by omega)⟩
  · rw [if_neg (by omega)]
    exact ⟨r, rfl, .inr ⟨h0, h1⟩⟩
theorem szWrS_ok (l : List E_LWr) (hl : l.length ≤ maxLen) (hm : ∀ a ∈ l, List.length a.2 ≤ maxLen) (n : Int) (hn0 : 0 ≤ n) (hn1 : n ≤ 1048576) : szOk n ((l.length : Int) + sumW (fun a : E_LWr => (List.length a.2 : Int)) l) (F_laws_szWrS (l, n)) := by
  simp only [maxLen] at hl
  unfold F_laws_szWrS L_laws_szWrS_5
  simp only [Bool.cond_eq_ite, decide_eq_true_eq]
  rw [w64 (n := n - l.length) (by omega) (by omega)]
  by_cases h : n - (l.length : Int) < 0
  · rw [if_pos h]
    exact ⟨-1, rfl, .inl (by omega)⟩
  · rw [if_neg h]
    have hs : ∀ again (n i r : Int), 0 ≤ i → i < (l.length : Int) → F_laws_szWr ((l.getD i.toNat z_LWr).1, (l.getD i.toNat z_LWr).2, n) = some r → S_laws_szWrS_5 (fun x2 => some x2.2) (fun x3 => some x3) again (l, n, i) = if r < 0 then some (-1 : Int) else again (l, r, i + 1) := by
      intro again n i r h0 h1 hr
      unfold S_laws_szWrS_5
      have hw : Go.IntKind.wrap .i64 (i + 1) = i + 1 := w64 (by omega) (by omega)
      have hr' : F_laws_szWr ((rd_LWr l i).1, (rd_LWr l i).2, n) = some r := hr
      simp only [Bool.cond_eq_ite, decide_eq_true_eq, h0, h1, if_true, hw, hr', Option.bind_some]
    have hd : ∀ again (n i : Int), ¬ i < (l.length : Int) → S_laws_szWrS_5 (fun x2 => some x2.2) (fun x3 => some x3) again (l, n, i) = some n := by
      intro again n i hi
      unfold S_laws_szWrS_5
      simp only [Bool.cond_eq_ite, decide_eq_true_eq, if_neg hi]
    rcases sz_loop z_LWr (fun a : E_LWr => (List.length a.2 : Int)) (fun a n => F_laws_szWr (a.1, a.2, n)) (step := S_laws_szWrS_5 (fun x2 => some x2.2) (fun x3 => some x3)) (fun x2 => some x2.2) (fun x3 => some x3) l (by omega) (fun a => by exact Int.natCast_nonneg _) (fun a ha n h0 h1 => szWr_ok a (hm a ha) n h0 h1) hs hd (n - l.length) (by omega) (by omega) with ⟨r, e⟩ | ⟨r, r0, r1, e⟩
    · rw [e]
      exact ⟨-1, rfl, .inl (by omega)⟩
    · rw [e]
      exact ⟨r, rfl, .inr ⟨r0, by omega⟩⟩
def lenB (a : E_s_u8) : Int := (List.length a : Int)
def lenW (a : E_LWr) : Int := (List.length a.2 : Int)
def smallD (s : List E_s_u8) (c : List E_LWr) : Prop := s.length ≤ 1048576 ∧ c.length ≤ 1048576 ∧ sumW lenB s ≤ 1048576 ∧ sumW lenW c ≤ 1048576
theorem lenB_nonneg (a : E_s_u8) : 0 ≤ lenB a := Int.natCast_nonneg _
theorem lenW_nonneg (a : E_LWr) : 0 ≤ lenW a := Int.natCast_nonneg _
theorem sec_small {s : List E_s_u8} (h : sumW lenB s ≤ 1048576) {a : E_s_u8} (ha : a ∈ s) : List.length a ≤ 1048576 := by
  have h4 := (sumW_mem lenB_nonneg ha).1
  have h5 : lenB a = (List.length a : Int) := rfl
  omega
theorem wr_small {c : List E_LWr} (h : sumW lenW c ≤ 1048576) {a : E_LWr} (ha : a ∈ c) : List.length a.2 ≤ 1048576 := by
  have h4 := (sumW_mem lenW_nonneg ha).1
  have h5 : lenW a = (List.length a.2 : Int) := rfl
  omega
theorem szDev_ok (s : List E_s_u8) (c : List E_LWr) (z : Int) (b : Bool) (hs : s.length ≤ maxLen) (hss : ∀ a ∈ s, List.length a ≤ maxLen) (hc : c.length ≤ maxLen) (hcc : ∀ a ∈ c, List.length a.2 ≤ maxLen) :
    F_laws_szDev (s, c, z, b, 1048576) = some (-1) ∨ ∃ r, F_laws_szDev (s, c, z, b, 1048576) = some r ∧ 0 ≤ r ∧ r ≤ 1048576 ∧ smallD s c := by
  have w1 := sumW_nonneg lenB_nonneg s
  have w2 := sumW_nonneg lenW_nonneg c
  have e1 : sumW (fun a : E_s_u8 => (List.length a : Int)) s = sumW lenB s := rfl
  have e2 : sumW (fun a : E_LWr => (List.length a.2 : Int)) c = sumW lenW c := rfl
  unfold F_laws_szDev
  rcases szStep _ _ _ (fun r1 => Option.bind (F_laws_szWrS (c, r1)) fun r2 => bif (decide (r2 < (0 : Int))) then some (-1 : Int) else some r2) (szByteSS_ok s hs hss 1048576 (by omega) (by omega)) with h | ⟨h0, h⟩
  · exact .inl h
  · rw [e1] at h0 h
    rcases szStep _ _ _ (fun r2 => some r2) (szWrS_ok c hc hcc (1048576 - ((s.length : Int) + sumW lenB s)) h0 (by omega)) with h' | ⟨h0', h'⟩
    · exact .inl (h.trans h')
    · rw [e2] at h0' h'
      exact .inr ⟨_, h.trans h', h0', by omega, by omega, by omega, by omega, by omega⟩
theorem toByteSS_eq (l : List E_s_u8) (hl : l.length ≤ 1048576) (hm : ∀ a ∈ l, F_laws_toByteS a = some a) : F_laws_toByteSS l = some l := by
  unfold F_laws_toByteSS L_laws_toByteSS_3
  rw [if_pos (by omega), if_pos (Int.le_refl _), if_pos (by omega)]
  refine copy_loop z_s_u8 (fun x => some x) l (by omega) ?_ ?_ _ (by simp)
  · intro again i o h0 h1 h2
    unfold S_laws_toByteSS_3
    have hw : Go.IntKind.wrap .i64 (i + 1) = i + 1 := w64 (by omega) (by omega)
    have h3 : i < (o.length : Int) := by omega
    have e : F_laws_toByteS (rd_s_u8 l i) = some (rd_s_u8 l i) := hm _ (getD_mem z_s_u8 l i h0 h1)
    simp only [Bool.cond_eq_ite, decide_eq_true_eq, h0, h1, h3, if_true, hw, e, Option.bind_some]
    rfl
  · intro again i o hi
    unfold S_laws_toByteSS_3
    simp only [Bool.cond_eq_ite, decide_eq_true_eq, if_neg hi]
theorem toWrS_eq (l : List E_LWr) (hl : l.length ≤ 1048576) (hm : ∀ a ∈ l, F_laws_toByteS a.2 = some a.2) : F_laws_toWrS l = some l := by
  unfold F_laws_toWrS L_laws_toWrS_3
  rw [if_pos (by omega), if_pos (Int.le_refl _), if_pos (by omega)]
  refine copy_loop z_LWr (fun x => some x) l (by omega) ?_ ?_ _ (by simp)
  · intro again i o h0 h1 h2
    unfold S_laws_toWrS_3
    have hw : Go.IntKind.wrap .i64 (i + 1) = i + 1 := w64 (by omega) (by omega)
    have h3 : i < (o.length : Int) := by omega
    have e : F_laws_toByteS (rd_LWr l i).2 = some (rd_LWr l i).2 := hm _ (getD_mem z_LWr l i h0 h1)
    simp only [Bool.cond_eq_ite, decide_eq_true_eq, h0, h1, h3, if_true, hw, F_laws_toWr, e, Option.bind_some]
    rfl
  · intro again i o hi
    unfold S_laws_toWrS_3
    simp only [Bool.cond_eq_ite, decide_eq_true_eq, if_neg hi]
theorem toDev_eq (s : List E_s_u8) (c : List E_LWr) (z : Int) (b : Bool) (h : smallD s c) : F_laws_toDev (s, c, z, b) = some (s, c, z, b) := by
  obtain ⟨h1, h2, h3, h4⟩ := h
  unfold F_laws_toDev
  simp only [toByteSS_eq s h1 fun a ha => toByteS_eq a (Nat.le_trans (sec_small h3 ha) (by decide)), toWrS_eq c h2 fun a ha => toByteS_eq a.2 (Nat.le_trans (wr_small h4 ha) (by decide)), Option.bind_some]
theorem eqByteSS_refl (l : List E_s_u8) (hl : l.length ≤ 1048576) (hm : ∀ a ∈ l, F_laws_eqByteS (a, a) = some true) : F_laws_eqByteSS (l, l) = some true := by
  unfold F_laws_eqByteSS L_laws_eqByteSS_4
  simp only [bne_self_eq_false, cond_false]
  refine eq_loop (fun _ => some true) l (by omega) ?_ ?_
  · intro again i h0 h1
    unfold S_laws_eqByteSS_4
    have hw : Go.IntKind.wrap .i64 (i + 1) = i + 1 := w64 (by omega) (by omega)
    have e : F_laws_eqByteS (rd_s_u8 l i, rd_s_u8 l i) = some true := hm _ (getD_mem z_s_u8 l i h0 h1)
    simp only [Bool.cond_eq_ite, decide_eq_true_eq, h0, h1, if_true, hw, e, Option.bind_some, bne_self_eq_false, beq_self_eq_true, Bool.not_true, Bool.false_eq_true, if_false]
  · intro again i hi
    unfold S_laws_eqByteSS_4
    simp only [Bool.cond_eq_ite, decide_eq_true_eq, if_neg hi]
theorem eqWrS_refl (l : List E_Wr) (hl : l.length ≤ 1048576) (hm : ∀ a ∈ l, F_laws_eqByteS (a.2, a.2) = some true) : F_laws_eqWrS (l, l) = some true := by
  unfold F_laws_eqWrS L_laws_eqWrS_4
  simp only [bne_self_eq_false, cond_false]
  refine eq_loop (fun _ => some true) l (by omega) ?_ ?_
  · intro again i h0 h1
    unfold S_laws_eqWrS_4
    have hw : Go.IntKind.wrap .i64 (i + 1) = i + 1 := w64 (by omega) (by omega)
    have e : F_laws_eqByteS ((rd_Wr l i).2, (rd_Wr l i).2) = some true := hm _ (getD_mem z_Wr l i h0 h1)
    simp only [Bool.cond_eq_ite, decide_eq_true_eq, h0, h1, if_true, hw, F_laws_eqWr, e, Option.bind_some, bne_self_eq_false, beq_self_eq_true, Bool.not_true, Bool.false_eq_true, if_false]
  · intro again i hi
    unfold S_laws_eqWrS_4
    simp only [Bool.cond_eq_ite, decide_eq_true_eq, if_neg hi]
theorem eqDev_refl (s : List E_s_u8) (c : List E_LWr) (z : Int) (b : Bool) (h : smallD s c) : F_laws_eqDev (s, c, z, b, s, c, z, b) = some true := by
  obtain ⟨h1, h2, h3, h4⟩ := h
  unfold F_laws_eqDev
  simp only [eqByteSS_refl s h1 fun a ha => eqByteS_refl a (Nat.le_trans (sec_small h3 ha) (by decide)), eqWrS_refl c h2 fun a ha => eqByteS_refl a.2 (Nat.le_trans (wr_small h4 ha) (by decide)), Option.bind_some, Bool.not_true, cond_false, bne_self_eq_false, beq_self_eq_true]
def bigB (_ : Int) (a : E_s_u8) : Bool := decide ((List.length a : Int) > 80)
def badW (n : Int) (_ : Int) (w : E_Wr) : Bool := !inR w.1 0 (n - 1) || decide ((List.length w.2 : Int) > 80)
def devK (s : List E_s_u8) (c : List E_Wr) (z : Int) : Bool := !anyE bigB s 0 && (!anyE (badW s.length) c 0 && ((inR s.length 1 60 && decide ((c.length : Int) ≤ 60)) && inR z (-1) 1000))
theorem spec_DevOk_eq (s : List E_s_u8) (c : List E_Wr) (z : Int) (b : Bool) (hs : s.length ≤ 1048576) (hc : c.length ≤ 1048576) : F_spec_DevOk (s, c, z, b) = some (devK s c z) := by
  have hw1 : Go.IntKind.wrap .i64 ((s.length : Int) - 1) = (s.length : Int) - 1 := w64 (by omega) (by omega)
  unfold F_spec_DevOk L_spec_DevOk_2
  refine (any_loop0 (step := S_spec_DevOk_2 _ _) (fun i => (i, s, c, z, b)) bigB (some false) (some (!anyE (badW s.length) c 0 && ((inR s.length 1 60 && decide ((c.length : Int) ≤ 60)) && inR z (-1) 1000))) z_s_u8 s (by omega) ?_ ?_).trans ?_
  · intro again i h0 h1
    unfold S_spec_DevOk_2 bigB
    have hw : Go.IntKind.wrap .i64 (i + 1) = i + 1 := w64 (by omega) (by omega)
    simp only [Bool.cond_eq_ite, decide_eq_true_eq, h0, h1, if_true, hw]
    rfl
  · intro again i hi
    unfold S_spec_DevOk_2
    simp only [Bool.cond_eq_ite, decide_eq_true_eq, if_neg hi]
    unfold L_spec_DevOk_7
    refine (any_loop0 (step := S_spec_DevOk_7 _ _) (fun i => (i, s, c, z, b)) (badW s.length) (some false) (some ((inR s.length 1 60 && decide ((c.length : Int) ≤ 60)) && inR z (-1) 1000)) z_Wr c (by omega) ?_ ?_).trans ?_
    · intro again i h0 h1
      unfold S_spec_DevOk_7 badW
      have hw : Go.IntKind.wrap .i64 (i + 1) = i + 1 := w64 (by omega) (by omega)
      simp only [Bool.cond_eq_ite, decide_eq_true_eq, h0, h1, if_true, hw, hw1, l1In_eq, Option.bind_some]
      show Option.bind (if (!inR (c.getD i.toNat z_Wr).1 0 ((s.length : Int) - 1)) = true then some true else some (decide ((List.length (c.getD i.toNat z_Wr).2 : Int) > 80))) _ = _
      cases inR (c.getD i.toNat z_Wr).1 0 ((s.length : Int) - 1) <;> rfl
    · intro again i hi
      unfold S_spec_DevOk_7
      simp only [Bool.cond_eq_ite, decide_eq_true_eq, if_neg hi, l1In_eq, Option.bind_some]
      cases inR s.length 1 60
      · rfl
      · by_cases h6 : (c.length : Int) ≤ 60
        · simp [h6]
        · simp [h6]
    · cases anyE (badW s.length) c 0 <;> rfl
  · unfold devK
    cases anyE bigB s 0 <;> rfl
theorem impl_DevOk_eq (s : List E_s_u8) (c : List E_Wr) (z : Int) (b : Bool) (hs : s.length ≤ 1048576) (hc : c.length ≤ 1048576) : F_impl_DevOk (s, c, z, b) = some (devK s c z) := by
  have hw1 : Go.IntKind.wrap .i64 ((s.length : Int) - 1) = (s.length : Int) - 1 := w64 (by omega) (by omega)
  have hL : L_impl_DevOk_4 (fun x5 => some x5.1) (fun x6 => L_impl_DevOk_10 (fun x9 => some x9) (fun x10 => some true) (x6.2.1, ((List.length x6.2.1 : Nat) : Int), (0 : Int), x6.1, x6.2.1, x6.2.2.1, x6.2.2.2)) (s, ((List.length s : Nat) : Int), (0 : Int), s, c, z, b) = some (!anyE bigB s 0 && !anyE (badW s.length) c 0) := by
    unfold L_impl_DevOk_4
    refine (any_loop0 (step := S_impl_DevOk_4 _ _) (fun i => (s, (s.length : Int), i, s, c, z, b)) bigB (some false) (some (!anyE (badW s.length) c 0)) z_s_u8 s (by omega) ?_ ?_).trans ?_
    · intro again i h0 h1
      unfold S_impl_DevOk_4 bigB
      have hw : Go.IntKind.wrap .i64 (i + 1) = i + 1 := w64 (by omega) (by omega)
      simp only [Bool.cond_eq_ite, decide_eq_true_eq, h0, h1, if_true, hw]
      rfl
    · intro again i hi
      unfold S_impl_DevOk_4
      simp only [Bool.cond_eq_ite, decide_eq_true_eq, if_neg hi]
      unfold L_impl_DevOk_10
      refine (any_loop0 (step := S_impl_DevOk_10 _ _) (fun i => (c, (c.length : Int), i, s, c, z, b)) (badW s.length) (some false) (some true) z_Wr c (by omega) ?_ ?_).trans ?_
      · intro again i h0 h1
        unfold S_impl_DevOk_10 badW
        have hw : Go.IntKind.wrap .i64 (i + 1) = i + 1 := w64 (by omega) (by omega)
        simp only [Bool.cond_eq_ite, decide_eq_true_eq, h0, h1, if_true, hw, hw1, within_eq, Option.bind_some]
        show Option.bind (if (!inR (c.getD i.toNat z_Wr).1 0 ((s.length : Int) - 1)) = true then some true else some (decide ((List.length (c.getD i.toNat z_Wr).2 : Int) > 80))) _ = _
        cases inR (c.getD i.toNat z_Wr).1 0 ((s.length : Int) - 1) <;> rfl
      · intro again i hi
        unfold S_impl_DevOk_10
        simp only [Bool.cond_eq_ite, decide_eq_true_eq, if_neg hi]
      · cases anyE (badW s.length) c 0 <;> rfl
    · cases anyE bigB s 0 <;> rfl
  unfold F_impl_DevOk
  simp only [hL, within_eq, Option.bind_some]
  unfold devK
  cases inR s.length 1 60
  · cases anyE bigB s 0 <;> cases anyE (badW s.length) c 0 <;> rfl
  · by_cases h6 : (c.length : Int) ≤ 60
    · have h7 : ¬ (c.length : Int) > 60 := by omega
      simp only [h6, h7, decide_true, decide_false, Bool.not_true, cond_false, cond_true, Option.bind_some]
      cases inR z (-1) 1000
      · cases anyE bigB s 0 <;> cases anyE (badW s.length) c 0 <;> rfl
      · cases anyE bigB s 0 <;> cases anyE (badW s.length) c 0 <;> rfl
    · have h7 : (c.length : Int) > 60 := by omega
      simp only [h6, h7, decide_true, decide_false, Bool.not_true, cond_false, cond_true, Option.bind_some]
      cases anyE bigB s 0 <;> cases anyE (badW s.length) c 0 <;> rfl
end Go.Proofs.Ytibkaphfhdmjlaa.Pl

/- A device is marked, and the marks are held. No condition. -/
namespace Go.Proofs.Ytibkaphfhdmjlaa.Pl
open Go.Proofs.Ytibkaphfhdmjlaa.R Go.Proofs.Ytibkaphfhdmjlaa.XJ
set_option linter.unusedVariables false
set_option linter.unusedSimpArgs false

def mkB (k : Int) (n : Nat) : List Int := (List.range n).map fun (j : Nat) => Go.IntKind.wrap .u8 (k + (j : Int))
theorem mkB_len (k : Int) (n : Nat) : (mkB k n).length = n := by simp [mkB]
theorem mkB_succ (k : Int) (n : Nat) : mkB k (n + 1) = Go.IntKind.wrap .u8 k :: mkB (k + 1) n := by
  unfold mkB
  rw [List.range_succ_eq_map, List.map_cons, List.map_map]
  congr 1
  · simp
  · refine List.map_congr_left fun j _ => ?_
    simp only [Function.comp]
    congr 1
    omega
theorem mkB_get (k : Int) (n j : Nat) (h : j < n) : (mkB k n).getD j 0 = Go.IntKind.wrap .u8 (k + j) := by
  unfold mkB
  rw [List.getD_eq_getElem?_getD, List.getElem?_map, List.getElem?_range h]
  rfl
theorem markByteS_eq (l : List Int) (k : Int) (h0 : 0 ≤ k) (hk : k ≤ 1099511627776) (hl : l.length ≤ 1099511627776) : F_laws_markByteS (l, k) = some (k + l.length, mkB k l.length) := by
  unfold F_laws_markByteS L_laws_markByteS_2
  rw [loop_fuel (fun t : Int × Int × List Int => l.length - t.2.1.toNat) (fun t => t.1 = k + t.2.1 ∧ 0 ≤ t.2.1 ∧ t.2.1 ≤ l.length ∧ t.2.2.length = l.length) (fun t => some (k + l.length, t.2.2.take t.2.1.toNat ++ mkB t.1 (l.length - t.2.1.toNat))) ?_ (k, 0, l) ⟨by simp, by simp, by simp, rfl⟩ (by simp; omega)]
  · simp
  · rintro again ⟨k', i, o⟩ ⟨h1, h2, h3, h4⟩ hag
    simp only at h1 h2 h3 h4 ⊢
    subst h1
    unfold S_laws_markByteS_2
    simp only [Bool.cond_eq_ite, decide_eq_true_eq]
    by_cases hi : i < (List.length o : Int)
    · have hn : i.toNat < o.length := by omega
      rw [if_pos hi, if_pos h2, if_pos hi, w64 (n := i + 1) (by omega) (by omega), w64 (n := k + i + 1) (by omega) (by omega), hag (k + i + 1, i + 1, o.set i.toNat (Go.IntKind.wrap .u8 (k + i))) ⟨by simp only; omega, by simp only; omega, by simp only; omega, by simpa using h4⟩ (by simp only; omega)]
      simp only
      have e1 : (i + 1).toNat = i.toNat + 1 := by omega
      rw [e1, List.take_succ_eq_append_getElem (by simpa using hn), List.take_set_of_le (Nat.le_refl _), show l.length - i.toNat = (l.length - (i.toNat + 1)) + 1 by omega, mkB_succ]
      simp
    · rw [if_neg hi]
      have e1 : i.toNat = o.length := by omega
      have e2 : i = (l.length : Int) := by omega
      rw [List.take_of_length_le (by omega), show l.length - i.toNat = 0 by omega, e2]
      simp [mkB]
theorem heldByteS_eq (k : Int) (n : Nat) (h0 : 0 ≤ k) (hk : k ≤ 1099511627776) (hl : n ≤ 1099511627776) : F_laws_heldByteS (mkB k n, k) = some (k + n) := by
  unfold F_laws_heldByteS L_laws_heldByteS_2
  rw [loop_fuel (fun t : List Int × Int × Int => n - t.2.2.toNat) (fun t => t.1 = mkB k n ∧ t.2.1 = k + t.2.2 ∧ 0 ≤ t.2.2 ∧ t.2.2 ≤ n) (fun t => some (k + n)) ?_ (mkB k n, k, 0) ⟨rfl, by simp, by simp, by simp⟩ (by simp; omega)]
  rintro again ⟨o, k', i⟩ ⟨h1, h2, h3, h4⟩ hag
  simp only at h1 h2 h3 h4 ⊢
  subst h1 h2
  unfold S_laws_heldByteS_2
  simp only [Bool.cond_eq_ite, decide_eq_true_eq]
  have hlen : ((List.length (mkB k n) : Nat) : Int) = n := by rw [mkB_len]
  by_cases hi : i < (n : Int)
  · have hget : rd_u8 (mkB k n) i = Go.IntKind.wrap .u8 (k + i) := by
      show (mkB k n).getD i.toNat 0 = _
      rw [mkB_get k n i.toNat (by omega), show ((i.toNat : Nat) : Int) = i by omega]
    rw [hlen, if_pos hi, if_pos h3, if_pos hi, hget, if_neg (by simp), w64 (n := i + 1) (by omega) (by omega), w64 (n := k + i + 1) (by omega) (by omega), hag (mkB k n, k + i + 1, i + 1) ⟨rfl, by simp only; omega, by simp only; omega, by simp only; omega⟩ (by simp only; omega)]
  · rw [hlen, if_neg hi]
    congr 1
    omega
def bigN : Int := 549755813888
theorem set_rd {A : Type} (da : A) (l : List A) (i : Int) (v : A) (h0 : 0 ≤ i) (h1 : i < (List.length l : Int)) : (l.set i.toNat v).getD i.toNat da = v := by
  rw [List.getD_eq_getElem?_getD, List.getElem?_set_self (by omega)]
  rfl
def mkS (a : E_s_u8) (k : Int) : E_s_u8 := mkB k (List.length a)
theorem markByteSS_eq (l : List E_s_u8) (k : Int) (h0 : 0 ≤ k) (hl : l.length ≤ 1048576) (hk : k + sumW lenB l ≤ bigN) : F_laws_markByteSS (l, k) = some (k + sumW lenB l, marksL mkS lenB l k) := by
  unfold F_laws_markByteSS L_laws_markByteSS_2
  refine mark_loop z_s_u8 mkS lenB lenB_nonneg (fun _ => True) (fun x2 => some (x2.1, x2.2)) bigN ?_ ?_ l k h0 (by omega) hk (fun _ _ => trivial)
  · intro again k i l h0 h1 hk hM hl _
    unfold S_laws_markByteSS_2
    have hb : lenB (l.getD i.toNat z_s_u8) = (List.length (l.getD i.toNat z_s_u8) : Int) := rfl
    unfold bigN at hM
    have hw : Go.IntKind.wrap .i64 (i + 1) = i + 1 := w64 (by omega) (by omega)
    have he : F_laws_markByteS ((rd_s_u8 l i), k) = some (k + lenB (l.getD i.toNat z_s_u8), mkS (l.getD i.toNat z_s_u8) k) := markByteS_eq (l.getD i.toNat z_s_u8) k hk (by omega) (by omega)
    simp only [Bool.cond_eq_ite, decide_eq_true_eq, h0, h1, if_true, hw, he, Option.bind_some]
  · intro again k i l hi
    unfold S_laws_markByteSS_2
    simp only [Bool.cond_eq_ite, decide_eq_true_eq, if_neg hi]
theorem heldByteSS_eq (l : List E_s_u8) (k : Int) (h0 : 0 ≤ k) (hl : l.length ≤ 1048576) (hk : k + sumW lenB l ≤ bigN) : F_laws_heldByteSS (marksL mkS lenB l k, k) = some (k + sumW lenB l) := by
  unfold F_laws_heldByteSS L_laws_heldByteSS_2
  refine held_loop z_s_u8 mkS lenB lenB_nonneg (fun x => some x) bigN ?_ ?_ l k h0 (by omega) hk
  · intro again l k i a h0 h1 hk hM hl he
    unfold S_laws_heldByteSS_2
    have hb : lenB a = (List.length a : Int) := rfl
    unfold bigN at hM
    have hw : Go.IntKind.wrap .i64 (i + 1) = i + 1 := w64 (by omega) (by omega)
    have hr : rd_s_u8 l i = mkB k (List.length a) := he
    have hn : ¬ (k + lenB a < 0) := by omega
    have h2 : F_laws_heldByteS (rd_s_u8 l i, k) = some (k + lenB a) := by rw [hr]; exact heldByteS_eq k (List.length a) hk (by omega) (by omega)
    simp only [Bool.cond_eq_ite, decide_eq_true_eq, h0, h1, if_true, hw, h2, hn, if_false, Option.bind_some]
  · intro again l k i hi
    unfold S_laws_heldByteSS_2
    simp only [Bool.cond_eq_ite, decide_eq_true_eq, if_neg hi]
def cntW (a : E_Wr) : Int := 1 + lenW a
theorem cntW_nonneg (a : E_Wr) : 0 ≤ cntW a := by
  have := lenW_nonneg a
  unfold cntW
  omega
def mkW (a : E_Wr) (k : Int) : E_Wr := (k, mkB (k + 1) (List.length a.2))
theorem sum_cntW (l : List E_Wr) : sumW cntW l = l.length + sumW lenW l := by
  induction l with
  | nil => rfl
  | cons a l ih =>
    rw [sumW_cons, sumW_cons, ih]
    unfold cntW
    simp only [List.length_cons]
    omega
theorem markWrS_eq (l : List E_Wr) (k : Int) (h0 : 0 ≤ k) (hl : l.length ≤ 1048576) (hk : k + sumW cntW l ≤ bigN) : F_laws_markWrS (l, k) = some (k + sumW cntW l, marksL mkW cntW l k) := by
  unfold F_laws_markWrS L_laws_markWrS_2
  refine mark_loop z_Wr mkW cntW cntW_nonneg (fun _ => True) (fun x2 => some (x2.1, x2.2)) bigN ?_ ?_ l k h0 (by omega) hk (fun _ _ => trivial)
  · intro again k i l h0 h1 hk hM hl _
    unfold S_laws_markWrS_2
    have hb : cntW (l.getD i.toNat z_Wr) = 1 + (List.length (l.getD i.toNat z_Wr).2 : Int) := rfl
    unfold bigN at hM
    have hw : Go.IntKind.wrap .i64 (i + 1) = i + 1 := w64 (by omega) (by omega)
    have hw2 : Go.IntKind.wrap .i64 (k + 1) = k + 1 := w64 (by omega) (by omega)
    have hr : ∀ v : E_Wr, rd_Wr (l.set i.toNat v) i = v := fun v => set_rd z_Wr l i v h0 h1
    have he : F_laws_markByteS ((rd_Wr l i).2, k + 1) = some (k + cntW (l.getD i.toNat z_Wr), mkB (k + 1) (List.length (l.getD i.toNat z_Wr).2)) := by
      refine (markByteS_eq (l.getD i.toNat z_Wr).2 (k + 1) (by omega) (by omega) (by omega)).trans ?_
      rw [hb, Int.add_assoc]
    simp only [Bool.cond_eq_ite, decide_eq_true_eq, h0, h1, if_true, hw, hw2, hr, he, Option.bind_some, List.length_set, List.set_set, mkW]
  · intro again k i l hi
    unfold S_laws_markWrS_2
    simp only [Bool.cond_eq_ite, decide_eq_true_eq, if_neg hi]
theorem heldWrS_eq (l : List E_Wr) (k : Int) (h0 : 0 ≤ k) (hl : l.length ≤ 1048576) (hk : k + sumW cntW l ≤ bigN) : F_laws_heldWrS (marksL mkW cntW l k, k) = some (k + sumW cntW l) := by
  unfold F_laws_heldWrS L_laws_heldWrS_2
  refine held_loop z_Wr mkW cntW cntW_nonneg (fun x => some x) bigN ?_ ?_ l k h0 (by omega) hk
  · intro again l k i a h0 h1 hk hM hl he
    unfold S_laws_heldWrS_2
    have hb : cntW a = 1 + (List.length a.2 : Int) := rfl
    unfold bigN at hM
    have hw : Go.IntKind.wrap .i64 (i + 1) = i + 1 := w64 (by omega) (by omega)
    have hw2 : Go.IntKind.wrap .i64 (k + 1) = k + 1 := w64 (by omega) (by omega)
    have hr : rd_Wr l i = (k, mkB (k + 1) (List.length a.2)) := he
    have hn : ¬ (k + cntW a < 0) := by omega
    have h2 : F_laws_heldByteS (mkB (k + 1) (List.length a.2), k + 1) = some (k + cntW a) := by
      refine (heldByteS_eq (k + 1) (List.length a.2) (by omega) (by omega) (by omega)).trans ?_
      rw [hb, Int.add_assoc]
    simp only [Bool.cond_eq_ite, decide_eq_true_eq, h0, h1, if_true, hw, hw2, hr, h2, hn, if_false, Option.bind_some, bne_self_eq_false, Bool.false_eq_true]
  · intro again l k i hi
    unfold S_laws_heldWrS_2
    simp only [Bool.cond_eq_ite, decide_eq_true_eq, if_neg hi]
/-- A device, marked from 1 on. -/
theorem markDev_eq (s : List E_s_u8) (c : List E_Wr) (z : Int) (b : Bool) (h : smallD s c) : F_laws_markDev (s, c, z, b, 1) = some (1 + sumW lenB s + sumW cntW c, marksL mkS lenB s 1, marksL mkW cntW c (1 + sumW lenB s)) := by
  obtain ⟨h1, h2, h3, h4⟩ := h
  have w1 := sumW_nonneg lenB_nonneg s
  have w2 := sumW_nonneg lenW_nonneg c
  unfold F_laws_markDev
  simp only [markByteSS_eq s 1 (by omega) h1 (by unfold bigN; omega), markWrS_eq c (1 + sumW lenB s) (by omega) h2 (by rw [sum_cntW]; unfold bigN; omega), Option.bind_some]
theorem heldDev_eq (s : List E_s_u8) (c : List E_Wr) (z : Int) (b : Bool) (h : smallD s c) : F_laws_heldDev (marksL mkS lenB s 1, marksL mkW cntW c (1 + sumW lenB s), z, b, 1) = some (1 + sumW lenB s + sumW cntW c) := by
  obtain ⟨h1, h2, h3, h4⟩ := h
  have w1 := sumW_nonneg lenB_nonneg s
  have w2 := sumW_nonneg lenW_nonneg c
  have w3 := sumW_nonneg cntW_nonneg c
  unfold F_laws_heldDev
  simp only [heldByteSS_eq s 1 (by omega) h1 (by unfold bigN; omega), heldWrS_eq c (1 + sumW lenB s) (by omega) h2 (by rw [sum_cntW]; unfold bigN; omega), Option.bind_some]
  rw [decide_eq_false (show ¬ (1 + sumW lenB s < 0) by omega), decide_eq_false (show ¬ (1 + sumW lenB s + sumW cntW c < 0) by omega)]
  rfl
end Go.Proofs.Ytibkaphfhdmjlaa.Pl

/- Copies of a device, writes, and images. No condition. -/
namespace Go.Proofs.Ytibkaphfhdmjlaa.Pl
open Go.Proofs.Ytibkaphfhdmjlaa.R Go.Proofs.Ytibkaphfhdmjlaa.XJ
set_option linter.unusedVariables false
set_option linter.unusedSimpArgs false

/-- A loop that appends a list's elements, one by one, to a list that begins as none. -/
theorem app_loop {T A R : Type} {step : (T → Option R) → T → Option R} (da : A) (l : List A) (St0 : Int → T) (St1 : Int → List A → T) (k0 : Option R) (k1 : List A → Option R) (hl : l.length ≤ 1099511627776)
    (h0 : ∀ again i, 0 ≤ i → i < ((List.length l : Nat) : Int) → step again (St0 i) = again (St1 (i + 1) [l.getD i.toNat da]))
    (h1 : ∀ again i o, 0 ≤ i → i < ((List.length l : Nat) : Int) → List.length o ≤ List.length l → step again (St1 i o) = again (St1 (i + 1) (o ++ [l.getD i.toNat da])))
    (hd0 : ∀ again i, ¬ i < ((List.length l : Nat) : Int) → step again (St0 i) = k0)
    (hd1 : ∀ again i o, ¬ i < ((List.length l : Nat) : Int) → step again (St1 i o) = k1 o) : iter step FUEL (St0 0) = if l.length = 0 then k0 else k1 l := by
  have key : ∀ (m : Nat) (i : Int), 0 ≤ i → i ≤ l.length → l.length - i.toNat < m → iter step m (St1 i (l.take i.toNat)) = k1 l := by
    intro m
    induction m with
    | zero => intro i _ _ h; omega
    | succ m ih =>
      intro i i0 i1 hm
      rw [iter]
      by_cases hi : i < ((List.length l : Nat) : Int)
      · have e1 : (i + 1).toNat = i.toNat + 1 := by omega
        have e2 : l.take i.toNat ++ [l.getD i.toNat da] = l.take (i + 1).toNat := by
          rw [e1, List.take_succ_eq_append_getElem (by omega), getD_get da l i i0 hi]
        rw [h1 _ i _ i0 hi (by rw [List.length_take]; omega), e2]
        exact ih (i + 1) (by omega) (by omega) (by omega)
      · rw [hd1 _ i _ hi, List.take_of_length_le (by omega)]
  have hF : FUEL = (FUEL - 1) + 1 := by
    have := FUEL_eq
    omega
  rw [hF, iter]
  by_cases h : l.length = 0
  · rw [if_pos h, hd0 _ 0 (by omega)]
  · rw [if_neg h, h0 _ 0 (Int.le_refl _) (by omega)]
    have e : [l.getD (0 : Int).toNat da] = l.take (0 + 1 : Int).toNat := by
      cases l with
      | nil => simp at h
      | cons a l => rfl
    rw [e]
    exact key _ _ (by omega) (by omega) (by
      have := FUEL_eq
      omega)
theorem joinedOne (a : List Int) (h : a.length ≤ 2097152) : F_impl_joined [a] = some a := by
  have hF : FUEL = (FUEL - 2) + 1 + 1 := by
    have := FUEL_eq
    omega
  unfold F_impl_joined L_impl_joined_3
  rw [hF]
  have s0 : ∀ again, S_impl_joined_3 (fun x1 => some x1) again ([a], (1 : Int), (0 : Int), ([] : List E_u8)) = again ([a], 1, 1, a) := by
    intro again
    unfold S_impl_joined_3
    have hw : Go.IntKind.wrap .i64 (0 + 1) = 1 := w64 (by omega) (by omega)
    have hr : rd_s_u8 [a] 0 = a := rfl
    simp only [hw, hr, List.length_nil, List.length_cons, List.nil_append]
    rw [if_pos (by omega), if_pos (by omega), if_pos (by omega)]
    rfl
  have s1 : ∀ again, S_impl_joined_3 (fun x1 => some x1) again ([a], (1 : Int), (1 : Int), a) = some a := by
    intro again
    unfold S_impl_joined_3
    rfl
  rw [show ((List.length [a] : Nat) : Int) = 1 from rfl, iter, s0, iter, s1]
/-! ### Copies -/
theorem len1 {A : Type} (a : A) (k : Nat) (h : k < 140737488355328) : List.length [a] * k < 140737488355328 := by
  simp only [List.length_cons, List.length_nil]
  omega
theorem rd_s_small {s : List E_s_u8} (h : sumW lenB s ≤ 1048576) {i : Int} (h0 : 0 ≤ i) (h1 : i < ((List.length s : Nat) : Int)) : List.length (rd_s_u8 s i) ≤ 1048576 := sec_small h (getD_mem z_s_u8 s i h0 h1)
theorem rd_w_small {c : List E_Wr} (h : sumW lenW c ≤ 1048576) {i : Int} (h0 : 0 ≤ i) (h1 : i < ((List.length c : Nat) : Int)) : List.length (rd_Wr c i).2 ≤ 1048576 := wr_small h (getD_mem z_Wr c i h0 h1)
theorem spec_copy3 {R : Type} (k0 : List E_s_u8 × List E_Wr × Int × Bool × Int × Bool × Int × Bool → Option R) (k1 : List E_s_u8 × List E_Wr × Int × Bool × Int × Bool × Int × Bool × List E_s_u8 → Option R) (s : List E_s_u8) (c : List E_Wr) (z : Int) (b : Bool) (h : smallD s c) :
    L_spec_l2Copy_3 k0 k1 (Sum.inl (0, s, c, z, b, 0, false, z, b)) = if s.length = 0 then k0 (s, c, z, b, 0, false, z, b) else k1 (s, c, z, b, 0, false, z, b, s) := by
  obtain ⟨b1, b2, b3, b4⟩ := h
  unfold L_spec_l2Copy_3
  refine app_loop (step := S_spec_l2Copy_3 k0 k1) z_s_u8 s (fun i => Sum.inl (i, s, c, z, b, 0, false, z, b)) (fun i o => Sum.inr (i, s, c, z, b, 0, false, z, b, o)) _ (fun o => k1 (s, c, z, b, 0, false, z, b, o)) (by omega) ?_ ?_ ?_ ?_
  · intro again i h0 h1
    have hw : Go.IntKind.wrap .i64 (i + 1) = i + 1 := w64 (by omega) (by omega)
    have hr := rd_s_small b3 h0 h1
    simp only [S_spec_l2Copy_3, Bool.cond_eq_ite, decide_eq_true_eq, h0, h1, if_true, hw]
    rw [if_pos (by simp only [List.length_nil]; omega), if_pos (len1 _ _ (by decide))]
    rfl
  · intro again i o h0 h1 h2
    have hw : Go.IntKind.wrap .i64 (i + 1) = i + 1 := w64 (by omega) (by omega)
    have hr := rd_s_small b3 h0 h1
    simp only [S_spec_l2Copy_3, Bool.cond_eq_ite, decide_eq_true_eq, h0, h1, if_true, hw]
    rw [if_pos (by simp only [List.length_nil]; omega), if_pos (by simp only [List.length_cons, List.length_nil]; omega)]
    rfl
  · intro again i hi
    simp only [S_spec_l2Copy_3, Bool.cond_eq_ite, decide_eq_true_eq, if_neg hi]
  · intro again i o hi
    simp only [S_spec_l2Copy_3, Bool.cond_eq_ite, decide_eq_true_eq, if_neg hi]
theorem spec_copy7a {R : Type} (k0 : Int × Bool × Int × Bool → Option R) (k1 : Int × Bool × Int × Bool × List E_Wr → Option R) (k2 : Int × Bool × Int × Bool × List E_s_u8 → Option R) (k3 : Int × Bool × Int × Bool × List E_s_u8 × List E_Wr → Option R) (s : List E_s_u8) (c : List E_Wr) (z : Int) (b : Bool) (h : smallD s c) :
    L_spec_l2Copy_7 k0 k1 k2 k3 (Sum.inl (0, s, c, z, b, 0, false, z, b)) = if c.length = 0 then k0 (0, false, z, b) else k1 (0, false, z, b, c) := by
  obtain ⟨b1, b2, b3, b4⟩ := h
  unfold L_spec_l2Copy_7
  refine app_loop (step := S_spec_l2Copy_7 k0 k1 k2 k3) z_Wr c (fun i => Sum.inl (i, s, c, z, b, 0, false, z, b)) (fun i o => Sum.inr (Sum.inl (i, s, c, z, b, 0, false, z, b, o))) _ (fun o => k1 (0, false, z, b, o)) (by omega) ?_ ?_ ?_ ?_
  · intro again i h0 h1
    have hw : Go.IntKind.wrap .i64 (i + 1) = i + 1 := w64 (by omega) (by omega)
    have hr := rd_w_small b4 h0 h1
    simp only [S_spec_l2Copy_7, Bool.cond_eq_ite, decide_eq_true_eq, h0, h1, if_true, hw]
    rw [if_pos (by simp only [List.length_nil]; omega), if_pos (len1 _ _ (by decide))]
    rfl
  · intro again i o h0 h1 h2
    have hw : Go.IntKind.wrap .i64 (i + 1) = i + 1 := w64 (by omega) (by omega)
    have hr := rd_w_small b4 h0 h1
    simp only [S_spec_l2Copy_7, Bool.cond_eq_ite, decide_eq_true_eq, h0, h1, if_true, hw]
    rw [if_pos (by simp only [List.length_nil]; omega), if_pos (by simp only [List.length_cons, List.length_nil]; omega)]
    rfl
  · intro again i hi
    simp only [S_spec_l2Copy_7, Bool.cond_eq_ite, decide_eq_true_eq, if_neg hi]
  · intro again i o hi
    simp only [S_spec_l2Copy_7, Bool.cond_eq_ite, decide_eq_true_eq, if_neg hi]
theorem spec_copy7b {R : Type} (k0 : Int × Bool × Int × Bool → Option R) (k1 : Int × Bool × Int × Bool × List E_Wr → Option R) (k2 : Int × Bool × Int × Bool × List E_s_u8 → Option R) (k3 : Int × Bool × Int × Bool × List E_s_u8 × List E_Wr → Option R) (s o : List E_s_u8) (c : List E_Wr) (z : Int) (b : Bool) (h : smallD s c) :
    L_spec_l2Copy_7 k0 k1 k2 k3 (Sum.inr (Sum.inr (Sum.inl (0, s, c, z, b, 0, false, z, b, o)))) = if c.length = 0 then k2 (0, false, z, b, o) else k3 (0, false, z, b, o, c) := by
  obtain ⟨b1, b2, b3, b4⟩ := h
  unfold L_spec_l2Copy_7
  refine app_loop (step := S_spec_l2Copy_7 k0 k1 k2 k3) z_Wr c (fun i => Sum.inr (Sum.inr (Sum.inl (i, s, c, z, b, 0, false, z, b, o)))) (fun i o' => Sum.inr (Sum.inr (Sum.inr (i, s, c, z, b, 0, false, z, b, o, o')))) _ (fun o' => k3 (0, false, z, b, o, o')) (by omega) ?_ ?_ ?_ ?_
  · intro again i h0 h1
    have hw : Go.IntKind.wrap .i64 (i + 1) = i + 1 := w64 (by omega) (by omega)
    have hr := rd_w_small b4 h0 h1
    simp only [S_spec_l2Copy_7, Bool.cond_eq_ite, decide_eq_true_eq, h0, h1, if_true, hw]
    rw [if_pos (by simp only [List.length_nil]; omega), if_pos (len1 _ _ (by decide))]
    rfl
  · intro again i o' h0 h1 h2
    have hw : Go.IntKind.wrap .i64 (i + 1) = i + 1 := w64 (by omega) (by omega)
    have hr := rd_w_small b4 h0 h1
    simp only [S_spec_l2Copy_7, Bool.cond_eq_ite, decide_eq_true_eq, h0, h1, if_true, hw]
    rw [if_pos (by simp only [List.length_nil]; omega), if_pos (by simp only [List.length_cons, List.length_nil]; omega)]
    rfl
  · intro again i hi
    simp only [S_spec_l2Copy_7, Bool.cond_eq_ite, decide_eq_true_eq, if_neg hi]
  · intro again i o' hi
    simp only [S_spec_l2Copy_7, Bool.cond_eq_ite, decide_eq_true_eq, if_neg hi]
theorem spec_l2Copy_eq (s : List E_s_u8) (c : List E_Wr) (z : Int) (b : Bool) (h : smallD s c) : F_spec_l2Copy (s, c, z, b) = some (s, c, z, b) := by
  unfold F_spec_l2Copy
  rw [spec_copy3 _ _ s c z b h]
  cases s with
  | nil =>
    rw [if_pos (show List.length ([] : List E_s_u8) = 0 from rfl)]
    simp only [spec_copy7a _ _ _ _ _ c z b h]
    cases c with
    | nil => rfl
    | cons w c => rw [if_neg (show ¬ List.length (w :: c) = 0 from by simp)]
  | cons a s =>
    rw [if_neg (show ¬ List.length (a :: s) = 0 from by simp)]
    simp only [spec_copy7b _ _ _ _ _ _ c z b h]
    cases c with
    | nil => rfl
    | cons w c => rw [if_neg (show ¬ List.length (w :: c) = 0 from by simp)]
theorem impl_copy3 {R : Type} (k0 : List E_s_u8 × List E_Wr × Int × Bool × Int × Bool × Int × Bool → Option R) (k1 : List E_s_u8 × List E_Wr × Int × Bool × Int × Bool × Int × Bool × List E_s_u8 → Option R) (s : List E_s_u8) (c : List E_Wr) (z : Int) (b : Bool) (h : smallD s c) :
    L_impl_copyDev_3 k0 k1 (Sum.inl (s, ((List.length s : Nat) : Int), 0, s, c, z, b, 0, false, z, b)) = if s.length = 0 then k0 (s, c, z, b, 0, false, z, b) else k1 (s, c, z, b, 0, false, z, b, s) := by
  obtain ⟨b1, b2, b3, b4⟩ := h
  unfold L_impl_copyDev_3
  refine app_loop (step := S_impl_copyDev_3 k0 k1) z_s_u8 s (fun i => Sum.inl (s, ((List.length s : Nat) : Int), i, s, c, z, b, 0, false, z, b)) (fun i o => Sum.inr (s, ((List.length s : Nat) : Int), i, s, c, z, b, 0, false, z, b, o)) _ (fun o => k1 (s, c, z, b, 0, false, z, b, o)) (by omega) ?_ ?_ ?_ ?_
  · intro again i h0 h1
    have hw : Go.IntKind.wrap .i64 (i + 1) = i + 1 := w64 (by omega) (by omega)
    have hr := rd_s_small b3 h0 h1
    simp only [S_impl_copyDev_3, Bool.cond_eq_ite, decide_eq_true_eq, h0, h1, if_true, hw, joinedOne (rd_s_u8 s i) (by omega), Option.bind_some]
    rw [if_pos (len1 _ _ (by decide))]
    rfl
  · intro again i o h0 h1 h2
    have hw : Go.IntKind.wrap .i64 (i + 1) = i + 1 := w64 (by omega) (by omega)
    have hr := rd_s_small b3 h0 h1
    simp only [S_impl_copyDev_3, Bool.cond_eq_ite, decide_eq_true_eq, h0, h1, if_true, hw, joinedOne (rd_s_u8 s i) (by omega), Option.bind_some]
    rw [if_pos (by simp only [List.length_cons, List.length_nil]; omega)]
    rfl
  · intro again i hi
    simp only [S_impl_copyDev_3, Bool.cond_eq_ite, decide_eq_true_eq, if_neg hi]
  · intro again i o hi
    simp only [S_impl_copyDev_3, Bool.cond_eq_ite, decide_eq_true_eq, if_neg hi]
theorem impl_copy8a {R : Type} (k0 : Int × Bool × Int × Bool → Option R) (k1 : Int × Bool × Int × Bool × List E_Wr → Option R) (k2 : Int × Bool × Int × Bool × List E_s_u8 → Option R) (k3 : Int × Bool × Int × Bool × List E_s_u8 × List E_Wr → Option R) (c : List E_Wr) (z : Int) (b : Bool) (b2 : c.length ≤ 1048576) (b4 : sumW lenW c ≤ 1048576) :
    L_impl_copyDev_8 k0 k1 k2 k3 (Sum.inl (c, ((List.length c : Nat) : Int), 0, 0, false, z, b)) = if c.length = 0 then k0 (0, false, z, b) else k1 (0, false, z, b, c) := by
  unfold L_impl_copyDev_8
  refine app_loop (step := S_impl_copyDev_8 k0 k1 k2 k3) z_Wr c (fun i => Sum.inl (c, ((List.length c : Nat) : Int), i, 0, false, z, b)) (fun i o => Sum.inr (Sum.inl (c, ((List.length c : Nat) : Int), i, 0, false, z, b, o))) _ (fun o => k1 (0, false, z, b, o)) (by omega) ?_ ?_ ?_ ?_
  · intro again i h0 h1
    have hw : Go.IntKind.wrap .i64 (i + 1) = i + 1 := w64 (by omega) (by omega)
    have hr := rd_w_small b4 h0 h1
    simp only [S_impl_copyDev_8, Bool.cond_eq_ite, decide_eq_true_eq, h0, h1, if_true, hw, joinedOne (rd_Wr c i).2 (by omega), Option.bind_some]
    rw [if_pos (len1 _ _ (by decide))]
    rfl
  · intro again i o h0 h1 h2
    have hw : Go.IntKind.wrap .i64 (i + 1) = i + 1 := w64 (by omega) (by omega)
    have hr := rd_w_small b4 h0 h1
    simp only [S_impl_copyDev_8, Bool.cond_eq_ite, decide_eq_true_eq, h0, h1, if_true, hw, joinedOne (rd_Wr c i).2 (by omega), Option.bind_some]
    rw [if_pos (by simp only [List.length_cons, List.length_nil]; omega)]
    rfl
  · intro again i hi
    simp only [S_impl_copyDev_8, Bool.cond_eq_ite, decide_eq_true_eq, if_neg hi]
  · intro again i o hi
    simp only [S_impl_copyDev_8, Bool.cond_eq_ite, decide_eq_true_eq, if_neg hi]
theorem impl_copy8b {R : Type} (k0 : Int × Bool × Int × Bool → Option R) (k1 : Int × Bool × Int × Bool × List E_Wr → Option R) (k2 : Int × Bool × Int × Bool × List E_s_u8 → Option R) (k3 : Int × Bool × Int × Bool × List E_s_u8 × List E_Wr → Option R) (o : List E_s_u8) (c : List E_Wr) (z : Int) (b : Bool) (b2 : c.length ≤ 1048576) (b4 : sumW lenW c ≤ 1048576) :
    L_impl_copyDev_8 k0 k1 k2 k3 (Sum.inr (Sum.inr (Sum.inl (c, ((List.length c : Nat) : Int), 0, 0, false, z, b, o)))) = if c.length = 0 then k2 (0, false, z, b, o) else k3 (0, false, z, b, o, c) := by
  unfold L_impl_copyDev_8
  refine app_loop (step := S_impl_copyDev_8 k0 k1 k2 k3) z_Wr c (fun i => Sum.inr (Sum.inr (Sum.inl (c, ((List.length c : Nat) : Int), i, 0, false, z, b, o)))) (fun i o' => Sum.inr (Sum.inr (Sum.inr (c, ((List.length c : Nat) : Int), i, 0, false, z, b, o, o')))) _ (fun o' => k3 (0, false, z, b, o, o')) (by omega) ?_ ?_ ?_ ?_
  · intro again i h0 h1
    have hw : Go.IntKind.wrap .i64 (i + 1) = i + 1 := w64 (by omega) (by omega)
    have hr := rd_w_small b4 h0 h1
    simp only [S_impl_copyDev_8, Bool.cond_eq_ite, decide_eq_true_eq, h0, h1, if_true, hw, joinedOne (rd_Wr c i).2 (by omega), Option.bind_some]
    rw [if_pos (len1 _ _ (by decide))]
    rfl
  · intro again i o' h0 h1 h2
    have hw : Go.IntKind.wrap .i64 (i + 1) = i + 1 := w64 (by omega) (by omega)
    have hr := rd_w_small b4 h0 h1
    simp only [S_impl_copyDev_8, Bool.cond_eq_ite, decide_eq_true_eq, h0, h1, if_true, hw, joinedOne (rd_Wr c i).2 (by omega), Option.bind_some]
    rw [if_pos (by simp only [List.length_cons, List.length_nil]; omega)]
    rfl
  · intro again i hi
    simp only [S_impl_copyDev_8, Bool.cond_eq_ite, decide_eq_true_eq, if_neg hi]
  · intro again i o' hi
    simp only [S_impl_copyDev_8, Bool.cond_eq_ite, decide_eq_true_eq, if_neg hi]
theorem impl_copyDev_eq (s : List E_s_u8) (c : List E_Wr) (z : Int) (b : Bool) (h : smallD s c) : F_impl_copyDev (s, c, z, b) = some (s, c, z, b) := by
  unfold F_impl_copyDev
  rw [impl_copy3 _ _ s c z b h]
  cases s with
  | nil =>
    rw [if_pos (show List.length ([] : List E_s_u8) = 0 from rfl)]
    simp only [impl_copy8a _ _ _ _ c z b h.2.1 h.2.2.2]
    cases c with
    | nil => rfl
    | cons w c => rw [if_neg (show ¬ List.length (w :: c) = 0 from by simp)]
  | cons a s =>
    rw [if_neg (show ¬ List.length (a :: s) = 0 from by simp)]
    simp only [impl_copy8b _ _ _ _ _ c z b h.2.1 h.2.2.2]
    cases c with
    | nil => rfl
    | cons w c => rw [if_neg (show ¬ List.length (w :: c) = 0 from by simp)]
/-! ### A device that is right -/
def devP (s : List E_s_u8) (c : List E_Wr) (z : Int) : Prop := (∀ a ∈ s, List.length a ≤ 80) ∧ (∀ w ∈ c, 0 ≤ w.1 ∧ w.1 ≤ (s.length : Int) - 1 ∧ List.length w.2 ≤ 80) ∧ 1 ≤ s.length ∧ s.length ≤ 60 ∧ c.length ≤ 60 ∧ -1 ≤ z ∧ z ≤ 1000
theorem anyE_all {A : Type} (p : Int → A → Bool) (hp : ∀ i j a, p i a = p j a) : ∀ (l : List A) (i : Int), anyE p l i = false ↔ ∀ a ∈ l, p 0 a = false
  | [], i => by simp [anyE]
  | b :: l, i => by
    rw [anyE, Bool.or_eq_false_iff, anyE_all p hp l (i + 1), hp i 0 b]
    simp
theorem devK_iff (s : List E_s_u8) (c : List E_Wr) (z : Int) : devK s c z = true ↔ devP s c z := by
  unfold devK devP
  simp only [Bool.and_eq_true, Bool.not_eq_true', inR_iff, decide_eq_true_eq]
  rw [anyE_all bigB (fun _ _ _ => rfl), anyE_all (badW s.length) (fun _ _ _ => rfl)]
  constructor
  · rintro ⟨h1, h2, ⟨h3, h4⟩, h5⟩
    refine ⟨fun a ha => ?_, fun w hw => ?_, by omega, by omega, by omega, by omega, by omega⟩
    · have := of_decide_eq_false (h1 a ha)
      omega
    · have h := h2 w hw
      unfold badW at h
      rw [Bool.or_eq_false_iff, Bool.not_eq_false', inR_iff] at h
      have := of_decide_eq_false h.2
      exact ⟨h.1.1, h.1.2, by omega⟩
  · rintro ⟨h1, h2, h3, h4, h5, h6, h7⟩
    refine ⟨fun a ha => decide_eq_false (by have := h1 a ha; omega), fun w hw => ?_, ⟨⟨by omega, by omega⟩, by omega⟩, by omega, by omega⟩
    have h := h2 w hw
    unfold badW
    rw [Bool.or_eq_false_iff, Bool.not_eq_false', inR_iff]
    exact ⟨⟨h.1, h.2.1⟩, decide_eq_false (by omega)⟩
theorem sumW_le {A : Type} (w : A → Int) (m : Int) : ∀ (l : List A), (∀ a ∈ l, w a ≤ m) → sumW w l ≤ m * l.length
  | [], _ => by simp [sumW]
  | a :: l, h => by
    have h1 := sumW_le w m l fun b hb => h b (by simp [hb])
    have h2 := h a (by simp)
    rw [sumW_cons, List.length_cons]
    have e : m * ((l.length + 1 : Nat) : Int) = m * l.length + m := by
      rw [Int.natCast_add, Int.mul_add]
      simp
    omega
theorem devP_small {s : List E_s_u8} {c : List E_Wr} {z : Int} (h : devP s c z) : smallD s c := by
  obtain ⟨h1, h2, h3, h4, h5, h6, h7⟩ := h
  have e1 := sumW_le lenB 80 s fun a ha => by
    have := h1 a ha
    show (List.length a : Int) ≤ 80
    omega
  have e2 := sumW_le lenW 80 c fun w hw => by
    have := (h2 w hw).2.2
    show (List.length w.2 : Int) ≤ 80
    omega
  exact ⟨by omega, by omega, by omega, by omega⟩
/-! ### Writes -/
def wrK (s : List E_s_u8) (t : List E_Wr × Int × Bool) (n : Int) (p : List Int) : List E_Wr × Int × Bool :=
  if t.2.2 = true then t else if inR n 0 ((s.length : Int) - 1) = false then t else if (p.length : Int) > 80 then t else if (t.1.length : Int) ≥ 60 then t
  else if t.2.1 = 0 then (t.1, -1, true) else (t.1 ++ [(n, p)], if t.2.1 > 0 then t.2.1 - 1 else t.2.1, t.2.2)
theorem spec_l2Write_eq (s : List E_s_u8) (c : List E_Wr) (z : Int) (b : Bool) (n : Int) (p : List Int) (h : devP s c z) : F_spec_l2Write (s, c, z, b, n, p) = some (s, wrK s (c, z, b) n p) := by
  obtain ⟨h1, h2, h3, h4, h5, h6, h7⟩ := h
  have hw : Go.IntKind.wrap .i64 ((s.length : Int) - 1) = (s.length : Int) - 1 := w64 (by omega) (by omega)
  have hw2 : Go.IntKind.wrap .i64 (z - 1) = z - 1 := w64 (by omega) (by omega)
  unfold F_spec_l2Write wrK
  simp only [hw, l1In_eq, Option.bind_some]
  cases b with
  | true => rfl
  | false =>
    rw [if_neg (by simp)]
    cases hin : inR n 0 ((s.length : Int) - 1) with
    | false => rfl
    | true =>
      rw [if_neg (by simp)]
      by_cases a1 : (p.length : Int) > 80
      · rw [if_pos a1, decide_eq_true a1]
        rfl
      · rw [if_neg a1, decide_eq_false a1]
        by_cases a2 : (c.length : Int) ≥ 60
        · rw [if_pos a2, decide_eq_true a2]
          rfl
        · rw [if_neg a2, decide_eq_false a2]
          unfold F_spec_l2Op
          simp only [Bool.not_true, cond_false, Option.bind_some, hw2]
          by_cases a3 : z = 0
          · subst a3
            rfl
          · rw [if_neg a3, show (z == 0) = false from by simpa using a3, cond_false]
            have g1 : (List.length ([] : List E_u8) + p.length) * 1 < 140737488355328 := by
              simp only [List.length_nil]
              omega
            have g2 : (c.length + List.length ([(n, ([] : List E_u8) ++ p)] : List E_Wr)) * 32 < 140737488355328 := by
              simp only [List.length_cons, List.length_nil]
              omega
            by_cases a4 : z > 0
            · rw [if_pos a4, decide_eq_true a4]
              simp only [cond_true, Option.bind_some, Bool.not_true, cond_false]
              rw [if_pos g1, if_pos g2]
              rfl
            · rw [if_neg a4, decide_eq_false a4]
              simp only [cond_false, Option.bind_some, Bool.not_true]
              rw [if_pos g1, if_pos g2]
              rfl
theorem impl_WriteSec_eq (s : List E_s_u8) (c : List E_Wr) (z : Int) (b : Bool) (n : Int) (p : List Int) (h : devP s c z) : F_impl_WriteSec (s, c, z, b, n, p) = some (s, wrK s (c, z, b) n p) := by
  have hsm := devP_small h
  have hk := (devK_iff s c z).2 h
  obtain ⟨h1, h2, h3, h4, h5, h6, h7⟩ := h
  have hw : Go.IntKind.wrap .i64 ((s.length : Int) - 1) = (s.length : Int) - 1 := w64 (by omega) (by omega)
  have hw2 : Go.IntKind.wrap .i64 (z - 1) = z - 1 := w64 (by omega) (by omega)
  unfold F_impl_WriteSec wrK
  simp only [hw, within_eq, Option.bind_some, impl_copyDev_eq s c z b hsm, impl_DevOk_eq s c z b (by omega) (by omega), hk, Bool.not_true, cond_false]
  cases b with
  | true => rfl
  | false =>
    rw [if_neg (by simp)]
    cases hin : inR n 0 ((s.length : Int) - 1) with
    | false => rfl
    | true =>
      rw [if_neg (by simp)]
      by_cases a1 : (p.length : Int) > 80
      · rw [if_pos a1, decide_eq_true a1]
        rfl
      · rw [if_neg a1, decide_eq_false a1]
        by_cases a2 : (c.length : Int) ≥ 60
        · rw [if_pos a2, show (((List.length c : Nat) : Int) == 60) = true from by simp; omega]
          rfl
        · rw [if_neg a2, show (((List.length c : Nat) : Int) == 60) = false from by simp; omega]
          unfold F_impl_burn
          simp only [Bool.not_true, cond_false, Option.bind_some, hw2]
          by_cases a3 : z = 0
          · subst a3
            rfl
          · rw [if_neg a3, show (z == 0) = false from by simpa using a3, cond_false]
            have g2 : (c.length + List.length ([(n, p)] : List E_Wr)) * 32 < 140737488355328 := by
              simp only [List.length_cons, List.length_nil]
              omega
            by_cases a4 : z > 0
            · rw [if_pos a4, decide_eq_true a4]
              simp only [cond_true, Option.bind_some, joinedOne p (by omega)]
              rw [if_pos g2]
            · rw [if_neg a4, decide_eq_false a4]
              simp only [cond_false, cond_true, Option.bind_some, joinedOne p (by omega)]
              rw [if_pos g2]
theorem wrK_ok (s : List E_s_u8) (c : List E_Wr) (z : Int) (b : Bool) (n : Int) (p : List Int) (h : devP s c z) : devP s (wrK s (c, z, b) n p).1 (wrK s (c, z, b) n p).2.1 := by
  unfold wrK
  cases b with
  | true => exact h
  | false =>
    rw [if_neg (by simp)]
    cases hin : inR n 0 ((s.length : Int) - 1) with
    | false => exact h
    | true =>
      rw [if_neg (by simp)]
      by_cases a1 : (p.length : Int) > 80
      · rw [if_pos a1]
        exact h
      · rw [if_neg a1]
        by_cases a2 : (c.length : Int) ≥ 60
        · rw [if_pos a2]
          exact h
        · rw [if_neg a2]
          obtain ⟨h1, h2, h3, h4, h5, h6, h7⟩ := h
          by_cases a3 : z = 0
          · rw [if_pos a3]
            exact ⟨h1, h2, h3, h4, h5, by simp, by simp⟩
          · rw [if_neg a3]
            have hn := inR_iff.1 hin
            refine ⟨h1, ?_, h3, h4, ?_, ?_, ?_⟩
            · intro w hw
              simp only [List.mem_append, List.mem_singleton] at hw
              rcases hw with hw | rfl
              · exact h2 w hw
              · exact ⟨hn.1, hn.2, by simp only; omega⟩
            · simp only [List.length_append, List.length_cons, List.length_nil]
              omega
            · simp only
              split <;> omega
            · simp only
              split <;> omega
/-! ### Images -/
def partE (p : List Int) (i : Int) : Int := if (p.length : Int) < (i + 1) * 70 then p.length else (i + 1) * 70
def partL (p : List Int) (i : Int) : List Int := List.drop (i * 70).toNat (List.take (partE p i).toNat p)
def imgK (s : List E_s_u8) (side : Int) (p : List Int) : Nat → Int → List E_Wr × Int × Bool → List E_Wr × Int × Bool
  | 0, _, t => t
  | m + 1, i, t => if i * 70 < (p.length : Int) then imgK s side p m (i + 1) (wrK s t (8 + side * 24 + i) (partL p i)) else t
theorem imgK_end (s : List E_s_u8) (side : Int) (p : List Int) (m : Nat) (i : Int) (t : List E_Wr × Int × Bool) (h : ¬ i * 70 < (p.length : Int)) : imgK s side p m i t = t := by
  cases m with
  | zero => rfl
  | succ m => rw [imgK, if_neg h]
theorem imgK_ok (s : List E_s_u8) (side : Int) (p : List Int) : ∀ (m : Nat) (i : Int) (t : List E_Wr × Int × Bool), devP s t.1 t.2.1 → devP s (imgK s side p m i t).1 (imgK s side p m i t).2.1
  | 0, _, _, h => h
  | m + 1, i, t, h => by
    rw [imgK]
    split
    · exact imgK_ok s side p m (i + 1) _ (wrK_ok s t.1 t.2.1 t.2.2 _ _ h)
    · exact h
theorem spec_PartAt_eq (side i : Int) (h : inR side 0 1 = true) (h0 : 0 ≤ i) (h1 : i ≤ 23) : F_spec_PartAt (side, i) = some (8 + side * 24 + i) := by
  have hs := inR_iff.1 h
  unfold F_spec_PartAt
  simp only [l1In_eq, h, inR_iff.2 ⟨h0, h1⟩, Option.bind_some, Bool.not_true, cond_false]
  rw [w64 (n := side * 24) (by omega) (by omega), w64 (n := 8 + side * 24) (by omega) (by omega), w64 (by omega) (by omega)]
theorem impl_PartAt_eq (side i : Int) (h : inR side 0 1 = true) (h0 : 0 ≤ i) (h1 : i ≤ 23) : F_impl_PartAt (side, i) = some (8 + side * 24 + i) := by
  have hs := inR_iff.1 h
  unfold F_impl_PartAt
  simp only [within_eq, h, inR_iff.2 ⟨h0, h1⟩, Option.bind_some, Bool.not_true, cond_false]
  rw [w64 (n := side * 24) (by omega) (by omega), w64 (n := 8 + side * 24) (by omega) (by omega), w64 (by omega) (by omega)]
theorem spec_l18Write_eq (s : List E_s_u8) (c : List E_Wr) (z : Int) (b : Bool) (side : Int) (p : List Int) (h : devP s c z) (hside : inR side 0 1 = true) (hp : p.length ≤ 1680) : F_spec_l18Write (s, c, z, b, side, p) = some (s, imgK s side p 24 0 (c, z, b)) := by
  unfold F_spec_l18Write L_spec_l18Write_1
  refine loop_fuel (step := S_spec_l18Write_1 _) (fun t : Int × List Int × Int × Int × Bool × List E_s_u8 × List E_Wr => 24 - t.2.2.1.toNat) (fun t => t.1 = side ∧ t.2.1 = p ∧ 0 ≤ t.2.2.1 ∧ t.2.2.1 ≤ 24 ∧ t.2.2.2.2.2.1 = s ∧ devP s t.2.2.2.2.2.2 t.2.2.2.1) (fun t => some (s, imgK s side p (24 - t.2.2.1.toNat) t.2.2.1 (t.2.2.2.2.2.2, t.2.2.2.1, t.2.2.2.2.1))) ?_ (side, p, 0, z, b, s, c) ⟨rfl, rfl, Int.le_refl _, by simp, rfl, h⟩ (by simp)
  rintro again ⟨side', p', i, z', b', s', c'⟩ ⟨a1, a2, i0, i1, a3, hd⟩ hag
  simp only at a1 a2 i0 i1 a3 hd ⊢
  subst a1 a2 a3
  have w1 : Go.IntKind.wrap .i64 (i * 70) = i * 70 := w64 (by omega) (by omega)
  have w2 : Go.IntKind.wrap .i64 (i + 1) = i + 1 := w64 (by omega) (by omega)
  have w3 : Go.IntKind.wrap .i64 ((i + 1) * 70) = (i + 1) * 70 := w64 (by omega) (by omega)
  unfold S_spec_l18Write_1
  simp only [w1, w2, w3]
  by_cases hi : i * 70 < (p'.length : Int)
  · have e1 : 24 - i.toNat = (24 - (i + 1).toNat) + 1 := by omega
    rw [decide_eq_true hi, cond_true, e1, imgK, if_pos hi, spec_PartAt_eq side' i hside i0 (by omega)]
    simp only [Option.bind_some]
    have hcall : ∀ q, q = partL p' i → Option.bind (F_spec_l2Write (s', c', z', b', 8 + side' * 24 + i, q)) (fun r => again (side', p', i + 1, r.2.2.1, r.2.2.2, r.1, r.2.1)) = some (s', imgK s' side' p' (24 - (i + 1).toNat) (i + 1) (wrK s' (c', z', b') (8 + side' * 24 + i) (partL p' i))) := by
      rintro q rfl
      rw [spec_l2Write_eq s' c' z' b' _ _ hd]
      exact hag _ ⟨rfl, rfl, by simp only; omega, by simp only; omega, rfl, wrK_ok s' c' z' b' _ _ hd⟩ (by simp only; omega)
    by_cases he : (i + 1) * 70 > (p'.length : Int)
    · rw [decide_eq_true he, cond_true, if_pos (by omega), if_pos (by omega), if_pos (by omega)]
      exact hcall _ (by rw [partL, partE, if_pos he])
    · rw [decide_eq_false he, cond_false, if_pos (by omega), if_pos (by omega), if_pos (by omega)]
      exact hcall _ (by rw [partL, partE, if_neg he])
  · rw [decide_eq_false hi, cond_false, imgK_end _ _ _ _ _ _ hi]
def writeK (s : List E_s_u8) (c : List E_Wr) (z : Int) (b : Bool) (side : Int) (p : List Int) : List E_s_u8 × List E_Wr × Int × Bool := if (devK s c z && (inR side 0 1 && decide ((p.length : Int) ≤ 1680))) = true then (s, imgK s side p 24 0 (c, z, b)) else (s, c, z, b)
theorem writeK_small (s : List E_s_u8) (c : List E_Wr) (z : Int) (b : Bool) (side : Int) (p : List Int) (h : smallD s c) : smallD (writeK s c z b side p).1 (writeK s c z b side p).2.1 := by
  unfold writeK
  split
  · rename_i hc
    rw [Bool.and_eq_true] at hc
    exact devP_small (imgK_ok s side p 24 0 (c, z, b) ((devK_iff s c z).1 hc.1))
  · exact h
theorem spec_WriteImage_eq (s : List E_s_u8) (c : List E_Wr) (z : Int) (b : Bool) (side : Int) (p : List Int) (h : smallD s c) : F_spec_WriteImage (s, c, z, b, side, p) = some (writeK s c z b side p) := by
  unfold F_spec_WriteImage writeK
  simp only [spec_l2Copy_eq s c z b h, spec_DevOk_eq s c z b h.1 h.2.1, l1In_eq, Option.bind_some]
  cases hd : devK s c z with
  | false => rfl
  | true =>
    cases hin : inR side 0 1 with
    | false => rfl
    | true =>
      by_cases hp : (p.length : Int) ≤ 1680
      · rw [decide_eq_true hp]
        simp only [cond_true, Option.bind_some, Bool.and_true, if_true, spec_l18Write_eq s c z b side p ((devK_iff s c z).1 hd) hin (by omega)]
      · rw [decide_eq_false hp]
        rfl
theorem impl_img_loop {R : Type} (k : Int × Bool × Int × Bool × List E_s_u8 × List E_Wr → Option R) (s : List E_s_u8) (c : List E_Wr) (z : Int) (b : Bool) (side : Int) (p : List Int) (h : devP s c z) (hside : inR side 0 1 = true) (hp : p.length ≤ 1680) :
    L_impl_WriteImage_5 k (side, p, 0, 0, false, z, b, s, c) = k (0, false, (imgK s side p 24 0 (c, z, b)).2.1, (imgK s side p 24 0 (c, z, b)).2.2, s, (imgK s side p 24 0 (c, z, b)).1) := by
  unfold L_impl_WriteImage_5
  refine loop_fuel (step := S_impl_WriteImage_5 k) (fun t : Int × List Int × Int × Int × Bool × Int × Bool × List E_s_u8 × List E_Wr => 24 - t.2.2.1.toNat) (fun t => t.1 = side ∧ t.2.1 = p ∧ 0 ≤ t.2.2.1 ∧ t.2.2.1 ≤ 24 ∧ t.2.2.2.1 = 0 ∧ t.2.2.2.2.1 = false ∧ t.2.2.2.2.2.2.2.1 = s ∧ devP s t.2.2.2.2.2.2.2.2 t.2.2.2.2.2.1) (fun t => k (0, false, (imgK s side p (24 - t.2.2.1.toNat) t.2.2.1 (t.2.2.2.2.2.2.2.2, t.2.2.2.2.2.1, t.2.2.2.2.2.2.1)).2.1, (imgK s side p (24 - t.2.2.1.toNat) t.2.2.1 (t.2.2.2.2.2.2.2.2, t.2.2.2.2.2.1, t.2.2.2.2.2.2.1)).2.2, s, (imgK s side p (24 - t.2.2.1.toNat) t.2.2.1 (t.2.2.2.2.2.2.2.2, t.2.2.2.2.2.1, t.2.2.2.2.2.2.1)).1)) ?_ (side, p, 0, 0, false, z, b, s, c) ⟨rfl, rfl, Int.le_refl _, by simp, rfl, rfl, rfl, h⟩ (by simp)
  rintro again ⟨side', p', i, y, f, z', b', s', c'⟩ ⟨a1, a2, i0, i1, a4, a5, a3, hd⟩ hag
  simp only at a1 a2 i0 i1 a3 a4 a5 hd ⊢
  subst a1 a2 a3 a4 a5
  have w1 : Go.IntKind.wrap .i64 (i * 70) = i * 70 := w64 (by omega) (by omega)
  have w2 : Go.IntKind.wrap .i64 (i + 1) = i + 1 := w64 (by omega) (by omega)
  have w3 : Go.IntKind.wrap .i64 ((i + 1) * 70) = (i + 1) * 70 := w64 (by omega) (by omega)
  unfold S_impl_WriteImage_5
  simp only [w1, w2, w3]
  by_cases hi : i * 70 < (p'.length : Int)
  · have e1 : 24 - i.toNat = (24 - (i + 1).toNat) + 1 := by omega
    have hE : (if (p'.length : Int) < (i + 1) * 70 then (p'.length : Int) else (i + 1) * 70) = partE p' i := rfl
    have hE1 : i * 70 ≤ partE p' i := by
      unfold partE
      split <;> omega
    have hE2 : partE p' i ≤ (p'.length : Int) := by
      unfold partE
      split <;> omega
    rw [decide_eq_true hi, cond_true, e1, imgK, if_pos hi, impl_PartAt_eq side' i hside i0 (by omega)]
    simp only [Option.bind_some, hE]
    rw [if_pos (by omega), if_pos hE1, if_pos hE2, show List.drop (i * 70).toNat (List.take (partE p' i).toNat p') = partL p' i from rfl, impl_WriteSec_eq s' c' z' b' _ _ hd]
    exact hag _ ⟨rfl, rfl, by simp only; omega, by simp only; omega, rfl, rfl, rfl, wrK_ok s' c' z' b' _ _ hd⟩ (by simp only; omega)
  · rw [decide_eq_false hi, cond_false, imgK_end _ _ _ _ _ _ hi]
theorem impl_WriteImage_eq (s : List E_s_u8) (c : List E_Wr) (z : Int) (b : Bool) (side : Int) (p : List Int) (h : smallD s c) : F_impl_WriteImage (s, c, z, b, side, p) = some (writeK s c z b side p) := by
  unfold F_impl_WriteImage writeK
  simp only [impl_copyDev_eq s c z b h, impl_DevOk_eq s c z b h.1 h.2.1, within_eq, Option.bind_some]
  cases hd : devK s c z with
  | false => rfl
  | true =>
    by_cases hp : (p.length : Int) ≤ 1680
    · rw [decide_eq_false (show ¬ (p.length : Int) > 1680 by omega), decide_eq_true hp]
      cases hin : inR side 0 1 with
      | false => rfl
      | true =>
        simp only [cond_false, Option.bind_some, Bool.not_true, Bool.and_true, if_true, impl_img_loop _ s c z b side p ((devK_iff s c z).1 hd) hin (by omega)]
    · rw [decide_eq_true (show (p.length : Int) > 1680 by omega), decide_eq_false hp]
      simp
theorem law_WriteImage (s : List E_s_u8) (c : List E_LWr) (z : Int) (b : Bool) (side : Int) (p : List Int) (hs : s.length ≤ maxLen) (hss : ∀ a ∈ s, List.length a ≤ maxLen) (hc : c.length ≤ maxLen) (hcc : ∀ a ∈ c, List.length a.2 ≤ maxLen) : F_laws_FnExactWriteImage (s, c, z, b, side, p) = some true := by
  unfold F_laws_FnExactWriteImage
  by_cases hp : (p.length : Int) > 1048576
  · simp only [decide_eq_true hp, cond_true]
  simp only [decide_eq_false hp, cond_false]
  rcases szDev_ok s c z b hs hss hc hcc with h | ⟨r, h, r0, r1, hsm⟩
  · simp only [h, Option.bind_some]
    rfl
  · have hsm2 := writeK_small s c z b side p hsm
    have w1 := sumW_nonneg lenB_nonneg s
    have w2 := sumW_nonneg cntW_nonneg c
    have w3 := sumW_nonneg lenB_nonneg (writeK s c z b side p).1
    have w4 := sumW_nonneg cntW_nonneg (writeK s c z b side p).2.1
    have w5 : sumW cntW c ≤ 4000000 := by
      have := hsm.2.1
      have := hsm.2.2.2
      rw [sum_cntW]
      omega
    have w6 := hsm.2.2.1
    have hm := markByteS_eq p (1 + sumW lenB s + sumW cntW c) (by omega) (by omega) (by omega)
    simp only [h, toDev_eq s c z b hsm, toByteS_eq p (by omega), eqByteS_refl p (by omega), eqDev_refl s c z b hsm, spec_WriteImage_eq s c z b side p hsm, impl_WriteImage_eq s c z b side p hsm, markDev_eq s c z b hsm, hm, Option.bind_some]
    simp only [eqDev_refl _ _ (writeK s c z b side p).2.2.1 (writeK s c z b side p).2.2.2 hsm2, markDev_eq _ _ (writeK s c z b side p).2.2.1 (writeK s c z b side p).2.2.2 hsm2, heldDev_eq _ _ (writeK s c z b side p).2.2.1 (writeK s c z b side p).2.2.2 hsm2, Option.bind_some]
    rw [decide_eq_false (show ¬ r < 0 by omega), decide_eq_false (show ¬ (1 + sumW lenB s + sumW cntW c + p.length) < 0 by omega), decide_eq_false (show ¬ (1 + sumW lenB (writeK s c z b side p).1 + sumW cntW (writeK s c z b side p).2.1) < 0 by omega)]
    simp
end Go.Proofs.Ytibkaphfhdmjlaa.Pl

