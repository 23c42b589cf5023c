/- Dev, Join, RdSec, MarkDev, RdImg. No condition. -/
import Derived.Test.YtibkaphfhdmjlaaPCrc
/- Devices: sizes, copies, comparisons, what is right. No condition. -/
namespace Go.Proofs.Ytibkaphfhdmjlaa.Pl
open Go.Proofs.Ytibkaphfhdmjlaa.R Go.Proofs.Ytibkaphfhdmjlaa.XK
set_option linter.unusedVariables false
set_option linter.unusedSimpArgs false

theorem szByteS_ok (l : List E_u8) (hl : l.length ≤ maxLen) (n : Int) (hn0 : 0 ≤ n) (hn1 : n ≤ 1048576) : szOk n (l.length : Nat) (F_laws_szByteS (l, n)) := sz_flat n l.length hn0 hn1 hl
theorem szByteSS_ok (l : List E_s_u8) (hl : l.length ≤ maxLen) (hm : ∀ a ∈ l, List.length a ≤ maxLen) (n : Int) (hn0 : 0 ≤ n) (hn1 : n ≤ 1048576) : szOk n ((l.length : Int) + sumW (fun a : E_s_u8 => (List.length a : Int)) l) (F_laws_szByteSS (l, n)) := by
  simp only [maxLen] at hl
  unfold F_laws_szByteSS L_laws_szByteSS_5
  simp only [Bool.cond_eq_ite, decide_eq_true_eq]
  rw [w64 (n := n - l.length) (by omega) (by omega)]
  by_cases h : n - (l.length : Int) < 0
  · rw [if_pos h]
    exact ⟨-1, rfl, .inl (by omega)⟩
  · rw [if_neg h]
    have hs : ∀ again (n i r : Int), 0 ≤ i → i < (l.length : Int) → F_laws_szByteS (l.getD i.toNat z_s_u8, n) = some r → S_laws_szByteSS_5 (fun x2 => some x2.2) (fun x3 => some x3) again (l, n, i) = if r < 0 then some (-1 : Int) else again (l, r, i + 1) := by
      intro again n i r h0 h1 hr
      unfold S_laws_szByteSS_5
      have hw : Go.IntKind.wrap .i64 (i + 1) = i + 1 := w64 (by omega) (by omega)
      have hr' : F_laws_szByteS ((rd_s_u8 l i), n) = some r := hr
      simp only [Bool.cond_eq_ite, decide_eq_true_eq, h0, h1, if_true, hw, hr', Option.bind_some]
    have hd : ∀ again (n i : Int), ¬ i < (l.length : Int) → S_laws_szByteSS_5 (fun x2 => some x2.2) (fun x3 => some x3) again (l, n, i) = some n := by
      intro again n i hi
      unfold S_laws_szByteSS_5
      simp only [Bool.cond_eq_ite, decide_eq_true_eq, if_neg hi]
    rcases sz_loop z_s_u8 (fun a : E_s_u8 => (List.length a : Int)) (fun a n => F_laws_szByteS (a, n)) (step := S_laws_szByteSS_5 (fun x2 => some x2.2) (fun x3 => some x3)) (fun x2 => some x2.2) (fun x3 => some x3) l (by omega) (fun a => by exact Int.natCast_nonneg _) (fun a ha n h0 h1 => szByteS_ok a (hm a ha) n h0 h1) hs hd (n - l.length) (by omega) (by omega) with ⟨r, e⟩ | ⟨r, r0, r1, e⟩
    · rw [e]
      exact ⟨-1, rfl, .inl (by omega)⟩
    · rw [e]
      exact ⟨r, rfl, .inr ⟨r0, by omega⟩⟩
theorem szWr_ok (a : E_LWr) (hl : List.length a.2 ≤ maxLen) (n : Int) (hn0 : 0 ≤ n) (hn1 : n ≤ 1048576) : szOk n (List.length a.2 : Nat) (F_laws_szWr (a.1, a.2, n)) := by
  obtain ⟨r, hr, hc⟩ := szByteS_ok a.2 hl n hn0 hn1
  unfold F_laws_szWr
  simp only [hr, Option.bind_some, Bool.cond_eq_ite, decide_eq_true_eq]
  rcases hc with hc | ⟨h0, h1⟩
  · rw [if_pos hc]
    exact ⟨-1, rfl, .inl (by omega)⟩
  · rw [if_neg (by omega)]
    exact ⟨r, rfl, .inr ⟨h0, h1⟩⟩
theorem szWrS_ok (l : List E_LWr) (hl : l.length ≤ maxLen) (hm : ∀ a ∈ l, List.length a.2 ≤ maxLen) (n : Int) (hn0 : 0 ≤ n) (hn1 : n ≤ 1048576) : szOk n ((l.length : Int) + sumW (fun a : E_LWr => (List.length a.2 : Int)) l) (F_laws_szWrS (l, n)) := by
  simp only [maxLen] at hl
  unfold F_laws_szWrS L_laws_szWrS_5
  simp only [Bool.cond_eq_ite, decide_eq_true_eq]
  rw [w64 (n := n - l.length) (by omega) (by omega)]
  by_cases h : n - (l.length : Int) < 0
  · rw [if_pos h]
    exact ⟨-1, rfl, .inl (by omega)⟩
  · rw [if_neg h]
    have hs : ∀ again (n i r : Int), 0 ≤ i → i < (l.length : Int) → F_laws_szWr ((l.getD i.toNat z_LWr).1, (l.getD i.toNat z_LWr).2, n) = some r → S_laws_szWrS_5 (fun x2 => some x2.2) (fun x3 => some x3) again (l, n, i) = if r < 0 then some (-1 : Int) else again (l, r, i + 1) := by
      intro again n i r h0 h1 hr
      unfold S_laws_szWrS_5
      have hw : Go.IntKind.wrap .i64 (i + 1) = i + 1 := w64 (by omega) (by omega)
      have hr' : F_laws_szWr ((rd_LWr l i).1, (rd_LWr l i).2, n) = some r := hr
      simp only [Bool.cond_eq_ite, decide_eq_true_eq, h0, h1, if_true, hw, hr', Option.bind_some]
    have hd : ∀ again (n i : Int), ¬ i < (l.length : Int) → S_laws_szWrS_5 (fun x2 => some x2.2) (fun x3 => some x3) again (l, n, i) = some n := by
      intro again n i hi
      unfold S_laws_szWrS_5
      simp only [Bool.cond_eq_ite, decide_eq_true_eq, if_neg hi]
    rcases sz_loop z_LWr (fun a : E_LWr => (List.length a.2 : Int)) (fun a n => F_laws_szWr (a.1, a.2, n)) (step := S_laws_szWrS_5 (fun x2 => some x2.2) (fun x3 => some x3)) (fun x2 => some x2.2) (fun x3 => some x3) l (by omega) (fun a => by exact Int.natCast_nonneg _) (fun a ha n h0 h1 => szWr_ok a (hm a ha) n h0 h1) hs hd (n - l.length) (by omega) (by omega) with ⟨r, e⟩ | ⟨r, r0, r1, e⟩
    · rw [e]
      exact ⟨-1, rfl, .inl (by omega)⟩
    · rw [e]
      exact ⟨r, rfl, .inr ⟨r0, by omega⟩⟩
def lenB (a : E_s_u8) : Int := (List.length a : Int)
def lenW (a : E_LWr) : Int := (List.length a.2 : Int)
def smallD (s : List E_s_u8) (c : List E_LWr) : Prop := s.length ≤ 1048576 ∧ c.length ≤ 1048576 ∧ sumW lenB s ≤ 1048576 ∧ sumW lenW c ≤ 1048576
theorem lenB_nonneg (a : E_s_u8) : 0 ≤ lenB a := Int.natCast_nonneg _
theorem lenW_nonneg (a : E_LWr) : 0 ≤ lenW a := Int.natCast_nonneg _
theorem sec_small {s : List E_s_u8} (h : sumW lenB s ≤ 1048576) {a : E_s_u8} (ha : a ∈ s) : List.length a ≤ 1048576 := by
  have h4 := (sumW_mem lenB_nonneg ha).1
  have h5 : lenB a = (List.length a : Int) := rfl
  omega
theorem wr_small {c : List E_LWr} (h : sumW lenW c ≤ 1048576) {a : E_LWr} (ha : a ∈ c) : List.length a.2 ≤ 1048576 := by
  have h4 := (sumW_mem lenW_nonneg ha).1
  have h5 : lenW a = (List.length a.2 : Int) := rfl
  omega
theorem szDev_ok (s : List E_s_u8) (c : List E_LWr) (z : Int) (b : Bool) (hs : s.length ≤ maxLen) (hss : ∀ a ∈ s, List.length a ≤ maxLen) (hc : c.length ≤ maxLen) (hcc : ∀ a ∈ c, List.length a.2 ≤ maxLen) :
    F_laws_szDev (s, c, z, b, 1048576) = some (-1) ∨ ∃ r, F_laws_szDev (s, c, z, b, 1048576) = some r ∧ 0 ≤ r ∧ r ≤ 1048576 ∧ smallD s c := by
  have w1 := sumW_nonneg lenB_nonneg s
  have w2 := sumW_nonneg lenW_nonneg c
  have e1 : sumW (fun a : E_s_u8 => (List.length a : Int)) s = sumW lenB s := rfl
  have e2 : sumW (fun a : E_LWr => (List.length a.2 : Int)) c = sumW lenW c := rfl
  unfold F_laws_szDev
  rcases szStep _ _ _ (fun r1 => Option.bind (F_laws_szWrS (c, r1)) fun r2 => bif (decide (r2 < (0 : Int))) then some (-1 : Int) else some r2) (szByteSS_ok s hs hss 1048576 (by omega) (by omega)) with h | ⟨h0, h⟩
  · exact .inl h
  · rw [e1] at h0 h
    rcases szStep _ _ _ (fun r2 => some r2) (szWrS_ok c hc hcc (1048576 - ((s.length : Int) + sumW lenB s)) h0 (by omega)) with h' | ⟨h0', h'⟩
    · exact .inl (h.trans h')
    · rw [e2] at h0' h'
      exact .inr ⟨_, h.trans h', h0', by omega, by omega, by omega, by omega, by omega⟩
theorem toByteSS_eq (l : List E_s_u8) (hl : l.length ≤ 1048576) (hm : ∀ a ∈ l, F_laws_toByteS a = some a) : F_laws_toByteSS l = some l := by
  unfold F_laws_toByteSS L_laws_toByteSS_3
  rw [if_pos (by omega), if_pos (Int.le_refl _), if_pos (by omega)]
  refine copy_loop z_s_u8 (fun x => some x) l (by omega) ?_ ?_ _ (by simp)
  · intro again i o h0 h1 h2
    unfold S_laws_toByteSS_3
    have hw : Go.IntKind.wrap .i64 (i + 1) = i + 1 := w64 (by omega) (by omega)
    have h3 : i < (o.length : Int) := by omega
    have e : F_laws_toByteS (rd_s_u8 l i) = some (rd_s_u8 l i) := hm _ (getD_mem z_s_u8 l i h0 h1)
    simp only [Bool.cond_eq_ite, decide_eq_true_eq, h0, h1, h3, if_true, hw, e, Option.bind_some]
    rfl
  · intro again i o hi
    unfold S_laws_toByteSS_3
    simp only [Bool.cond_eq_ite, decide_eq_true_eq, if_neg hi]
theorem toWrS_eq (l : List E_LWr) (hl : l.length ≤ 1048576) (hm : ∀ a ∈ l, F_laws_toByteS a.2 = some a.2) : F_laws_toWrS l = some l := by
  unfold F_laws_toWrS L_laws_toWrS_3
  rw [if_pos (by omega), if_pos (Int.le_refl _), if_pos (by omega)]
  refine copy_loop z_LWr (fun x => some x) l (by omega) ?_ ?_ _ (by simp)
  · intro again i o h0 h1 h2
    unfold S_laws_toWrS_3
    have hw : Go.IntKind.wrap .i64 (i + 1) = i + 1 := w64 (by omega) (by omega)
    have h3 : i < (o.length : Int) := by omega
    have e : F_laws_toByteS (rd_LWr l i).2 = some (rd_LWr l i).2 := hm _ (getD_mem z_LWr l i h0 h1)
    simp only [Bool.cond_eq_ite, decide_eq_true_eq, h0, h1, h3, if_true, hw, F_laws_toWr, e, Option.bind_some]
    rfl
  · intro again i o hi
    unfold S_laws_toWrS_3
    simp only [Bool.cond_eq_ite, decide_eq_true_eq, if_neg hi]
theorem toDev_eq (s : List E_s_u8) (c : List E_LWr) (z : Int) (b : Bool) (h : smallD s c) : F_laws_toDev (s, c, z, b) = some (s, c, z, b) := by
  obtain ⟨h1, h2, h3, h4⟩ := h
  unfold F_laws_toDev
  simp only [toByteSS_eq s h1 fun a ha => toByteS_eq a (Nat.le_trans (sec_small h3 ha) (by decide)), toWrS_eq c h2 fun a ha => toByteS_eq a.2 (Nat.le_trans (wr_small h4 ha) (by decide)), Option.bind_some]
theorem eqByteSS_refl (l : List E_s_u8) (hl : l.length ≤ 1048576) (hm : ∀ a ∈ l, F_laws_eqByteS (a, a) = some true) : F_laws_eqByteSS (l, l) = some true := by
  unfold F_laws_eqByteSS L_laws_eqByteSS_4
  simp only [bne_self_eq_false, cond_false]
  refine eq_loop (fun _ => some true) l (by omega) ?_ ?_
  · intro again i h0 h1
    unfold S_laws_eqByteSS_4
    have hw : Go.IntKind.wrap .i64 (i + 1) = i + 1 := w64 (by omega) (by omega)
    have e : F_laws_eqByteS (rd_s_u8 l i, rd_s_u8 l i) = some true := hm _ (getD_mem z_s_u8 l i h0 h1)
    simp only [Bool.cond_eq_ite, decide_eq_true_eq, h0, h1, if_true, hw, e, Option.bind_some, bne_self_eq_false, beq_self_eq_true, Bool.not_true, Bool.false_eq_true, if_false]
  · intro again i hi
    unfold S_laws_eqByteSS_4
    simp only [Bool.cond_eq_ite, decide_eq_true_eq, if_neg hi]
theorem eqWrS_refl (l : List E_Wr) (hl : l.length ≤ 1048576) (hm : ∀ a ∈ l, F_laws_eqByteS (a.2, a.2) = some true) : F_laws_eqWrS (l, l) = some true := by
  unfold F_laws_eqWrS L_laws_eqWrS_4
  simp only [bne_self_eq_false, cond_false]
  refine eq_loop (fun _ => some true) l (by omega) ?_ ?_
  · intro again i h0 h1
    unfold S_laws_eqWrS_4
    have hw : Go.IntKind.wrap .i64 (i + 1) = i + 1 := w64 (by omega) (by omega)
    have e : F_laws_eqByteS ((rd_Wr l i).2, (rd_Wr l i).2) = some true := hm _ (getD_mem z_Wr l i h0 h1)
    simp only [Bool.cond_eq_ite, decide_eq_true_eq, h0, h1, if_true, hw, F_laws_eqWr, e, Option.bind_some, bne_self_eq_false, beq_self_eq_true, Bool.not_true, Bool.false_eq_true, if_false]
  · intro again i hi
    unfold S_laws_eqWrS_4
    simp only [Bool.cond_eq_ite, decide_eq_true_eq, if_neg hi]
theorem eqDev_refl (s : List E_s_u8) (c : List E_LWr) (z : Int) (b : Bool) (h : smallD s c) : F_laws_eqDev (s, c, z, b, s, c, z, b) = some true := by
  obtain ⟨h1, h2, h3, h4⟩ := h
  unfold F_laws_eqDev
  simp only [eqByteSS_refl s h1 fun a ha => eqByteS_refl a (Nat.le_trans (sec_small h3 ha) (by decide)), eqWrS_refl c h2 fun a ha => eqByteS_refl a.2 (Nat.le_trans (wr_small h4 ha) (by decide)), Option.bind_some, Bool.not_true, cond_false, bne_self_eq_false, beq_self_eq_true]
def bigB (_ : Int) (a : E_s_u8) : Bool := decide ((List.length a : Int) > 80)
def badW (n : Int) (_ : Int) (w : E_Wr) : Bool := !inR w.1 0 (n - 1) || decide ((List.length w.2 : Int) > 80)
def devK (s : List E_s_u8) (c : List E_Wr) (z : Int) : Bool := !anyE bigB s 0 && (!anyE (badW s.length) c 0 && ((inR s.length 1 60 && decide ((c.length : Int) ≤ 60)) && inR z (-1) 1000))
theorem spec_DevOk_eq (s : List E_s_u8) (c : List E_Wr) (z : Int) (b : Bool) (hs : s.length ≤ 1048576) (hc : c.length ≤ 1048576) : F_spec_DevOk (s, c, z, b) = some (devK s c z) := by
  have hw1 : Go.IntKind.wrap .i64 ((s.length : Int) - 1) = (s.length : Int) - 1 := w64 (by omega) (by omega)
  unfold F_spec_DevOk L_spec_DevOk_2
  refine (any_loop0 (step := S_spec_DevOk_2 _ _) (fun i => (i, s, c, z, b)) bigB (some false) (some (!anyE (badW s.length) c 0 && ((inR s.length 1 60 && decide ((c.length : Int) ≤ 60)) && inR z (-1) 1000))) z_s_u8 s (by omega) ?_ ?_).trans ?_
  · intro again i h0 h1
    unfold S_spec_DevOk_2 bigB
    have hw : Go.IntKind.wrap .i64 (i + 1) = i + 1 := w64 (by omega) (by omega)
    simp only [Bool.cond_eq_ite, decide_eq_true_eq, h0, h1, if_true, hw]
    rfl
  · intro again i hi
    unfold S_spec_DevOk_2
    simp only [Bool.cond_eq_ite, decide_eq_true_eq, if_neg hi]
    unfold L_spec_DevOk_7
    refine (any_loop0 (step := S_spec_DevOk_7 _ _) (fun i => (i, s, c, z, b)) (badW s.length) (some false) (some ((inR s.length 1 60 && decide ((c.length : Int) ≤ 60)) && inR z (-1) 1000)) z_Wr c (by omega) ?_ ?_).trans ?_
    · intro again i h0 h1
      unfold S_spec_DevOk_7 badW
      have hw : Go.IntKind.wrap .i64 (i + 1) = i + 1 := w64 (by omega) (by omega)
      simp only [Bool.cond_eq_ite, decide_eq_true_eq, h0, h1, if_true, hw, hw1, l1In_eq, Option.bind_some]
      show Option.bind (if (!inR (c.getD i.toNat z_Wr).1 0 ((s.length : Int) - 1)) = true then some true else some (decide ((List.length (c.getD i.toNat z_Wr).2 : Int) > 80))) _ = _
      cases inR (c.getD i.toNat z_Wr).1 0 ((s.length : Int) - 1) <;> rfl
    · intro again i hi
      unfold S_spec_DevOk_7
      simp only [Bool.cond_eq_ite, decide_eq_true_eq, if_neg hi, l1In_eq, Option.bind_some]
      cases inR s.length 1 60
      · rfl
      · by_cases h6 : (c.length : Int) ≤ 60
        · simp [h6]
        · simp [h6]
    · cases anyE (badW s.length) c 0 <;> rfl
  · unfold devK
    cases anyE bigB s 0 <;> rfl
theorem impl_DevOk_eq (s : List E_s_u8) (c : List E_Wr) (z : Int) (b : Bool) (hs : s.length ≤ 1048576) (hc : c.length ≤ 1048576) : F_impl_DevOk (s, c, z, b) = some (devK s c z) := by
  have hw1 : Go.IntKind.wrap .i64 ((s.length : Int) - 1) = (s.length : Int) - 1 := w64 (by omega) (by omega)
  have hL : L_impl_DevOk_4 (fun x5 => some x5.1) (fun x6 => L_impl_DevOk_10 (fun x9 => some x9) (fun x10 => some true) (x6.2.1, ((List.length x6.2.1 : Nat) : Int), (0 : Int), x6.1, x6.2.1, x6.2.2.1, x6.2.2.2)) (s, ((List.length s : Nat) : Int), (0 : Int), s, c, z, b) = some (!anyE bigB s 0 && !anyE (badW s.length) c 0) := by
    unfold L_impl_DevOk_4
    refine (any_loop0 (step := S_impl_DevOk_4 _ _) (fun i => (s, (s.length : Int), i, s, c, z, b)) bigB (some false) (some (!anyE (badW s.length) c 0)) z_s_u8 s (by omega) ?_ ?_).trans ?_
    · intro again i h0 h1
      unfold S_impl_DevOk_4 bigB
      have hw : Go.IntKind.wrap .i64 (i + 1) = i + 1 := w64 (by omega) (by omega)
      simp only [Bool.cond_eq_ite, decide_eq_true_eq, h0, h1, if_true, hw]
      rfl
    · intro again i hi
      unfold S_impl_DevOk_4
      simp only [Bool.cond_eq_ite, decide_eq_true_eq, if_neg hi]
      unfold L_impl_DevOk_10
      refine (any_loop0 (step := S_impl_DevOk_10 _ _) (fun i => (c, (c.length : Int), i, s, c, z, b)) (badW s.length) (some false) (some true) z_Wr c (by omega) ?_ ?_).trans ?_
      · intro again i h0 h1
        unfold S_impl_DevOk_10 badW
        have hw : Go.IntKind.wrap .i64 (i + 1) = i + 1 := w64 (by omega) (by omega)
        simp only [Bool.cond_eq_ite, decide_eq_true_eq, h0, h1, if_true, hw, hw1, within_eq, Option.bind_some]
        show Option.bind (if (!inR (c.getD i.toNat z_Wr).1 0 ((s.length : Int) - 1)) = true then some true else some (decide ((List.length (c.getD i.toNat z_Wr).2 : Int) > 80))) _ = _
        cases inR (c.getD i.toNat z_Wr).1 0 ((s.length : Int) - 1) <;> rfl
      · intro again i hi
        unfold S_impl_DevOk_10
        simp only [Bool.cond_eq_ite, decide_eq_true_eq, if_neg hi]
      · cases anyE (badW s.length) c 0 <;> rfl
    · cases anyE bigB s 0 <;> rfl
  unfold F_impl_DevOk
  simp only [hL, within_eq, Option.bind_some]
  unfold devK
  cases inR s.length 1 60
  · cases anyE bigB s 0 <;> cases anyE (badW s.length) c 0 <;> rfl
  · by_cases h6 : (c.length : Int) ≤ 60
    · have h7 : ¬ (c.length : Int) > 60 := by omega
      simp only [h6, h7, decide_true, decide_false, Bool.not_true, cond_false, cond_true, Option.bind_some]
      cases inR z (-1) 1000
      · cases anyE bigB s 0 <;> cases anyE (badW s.length) c 0 <;> rfl
      · cases anyE bigB s 0 <;> cases anyE (badW s.length) c 0 <;> rfl
    · have h7 : (c.length : Int) > 60 := by omega
      simp only [h6, h7, decide_true, decide_false, Bool.not_true, cond_false, cond_true, Option.bind_some]
      cases anyE bigB s 0 <;> cases anyE (badW s.length) c 0 <;> rfl
end Go.Proofs.Ytibkaphfhdmjlaa.Pl

/- Appending loops; joining one row. No condition. -/
namespace Go.Proofs.Ytibkaphfhdmjlaa.Pl
open Go.Proofs.Ytibkaphfhdmjlaa.R Go.Proofs.Ytibkaphfhdmjlaa.XK
set_option linter.unusedVariables false
set_option linter.unusedSimpArgs false

/-- A loop that appends a list's elements, one by one, to a list that begins as none. -/
theorem app_loop {T A R : Type} {step : (T → Option R) → T → Option R} (da : A) (l : List A) (St0 : Int → T) (St1 : Int → List A → T) (k0 : Option R) (k1 : List A → Option R) (hl : l.length ≤ 1099511627776)
    (h0 : ∀ again i, 0 ≤ i → i < ((List.length l : Nat) : Int) → step again (St0 i) = again (St1 (i + 1) [l.getD i.toNat da]))
    (h1 : ∀ again i o, 0 ≤ i → i < ((List.length l : Nat) : Int) → List.length o ≤ List.length l → step again (St1 i o) = again (St1 (i + 1) (o ++ [l.getD i.toNat da])))
    (hd0 : ∀ again i, ¬ i < ((List.length l : Nat) : Int) → step again (St0 i) = k0)
    (hd1 : ∀ again i o, ¬ i < ((List.length l : Nat) : Int) → step again (St1 i o) = k1 o) : iter step FUEL (St0 0) = if l.length = 0 then k0 else k1 l := by
  have key : ∀ (m : Nat) (i : Int), 0 ≤ i → i ≤ l.length → l.length - i.toNat < m → iter step m (St1 i (l.take i.toNat)) = k1 l := by
    intro m
    induction m with
    | zero => intro i _ _ h; omega
    | succ m ih =>
      intro i i0 i1 hm
      rw [iter]
      by_cases hi : i < ((List.length l : Nat) : Int)
      · have e1 : (i + 1).toNat = i.toNat + 1 := by omega
        have e2 : l.take i.toNat ++ [l.getD i.toNat da] = l.take (i + 1).toNat := by
          rw [e1, List.take_succ_eq_append_getElem (by omega), getD_get da l i i0 hi]
        rw [h1 _ i _ i0 hi (by rw [List.length_take]; omega), e2]
        exact ih (i + 1) (by omega) (by omega) (by omega)
      · rw [hd1 _ i _ hi, List.take_of_length_le (by omega)]
  have hF : FUEL = (FUEL - 1) + 1 := by
    have := FUEL_eq
    omega
  rw [hF, iter]
  by_cases h : l.length = 0
  · rw [if_pos h, hd0 _ 0 (by omega)]
  · rw [if_neg h, h0 _ 0 (Int.le_refl _) (by omega)]
    have e : [l.getD (0 : Int).toNat da] = l.take (0 + 1 : Int).toNat := by
      cases l with
      | nil => simp at h
      | cons a l => rfl
    rw [e]
    exact key _ _ (by omega) (by omega) (by
      have := FUEL_eq
      omega)
theorem joinedOne (a : List Int) (h : a.length ≤ 2097152) : F_impl_joined [a] = some a := by
  have hF : FUEL = (FUEL - 2) + 1 + 1 := by
    have := FUEL_eq
    omega
  unfold F_impl_joined L_impl_joined_3
  rw [hF]
  have s0 : ∀ again, S_impl_joined_3 (fun x1 => some x1) again ([a], (1 : Int), (0 : Int), ([] : List E_u8)) = again ([a], 1, 1, a) := by
    intro again
    unfold S_impl_joined_3
    have hw : Go.IntKind.wrap .i64 (0 + 1) = 1 := w64 (by omega) (by omega)
    have hr : rd_s_u8 [a] 0 = a := rfl
    simp only [hw, hr, List.length_nil, List.length_cons, List.nil_append]
    rw [if_pos (by omega), if_pos (by omega), if_pos (by omega)]
    rfl
  have s1 : ∀ again, S_impl_joined_3 (fun x1 => some x1) again ([a], (1 : Int), (1 : Int), a) = some a := by
    intro again
    unfold S_impl_joined_3
    rfl
  rw [show ((List.length [a] : Nat) : Int) = 1 from rfl, iter, s0, iter, s1]
theorem len1 {A : Type} (a : A) (k : Nat) (h : k < 140737488355328) : List.length [a] * k < 140737488355328 := by
  simp only [List.length_cons, List.length_nil]
  omega
end Go.Proofs.Ytibkaphfhdmjlaa.Pl

/- Reading a sector of any device. No condition. -/
namespace Go.Proofs.Ytibkaphfhdmjlaa.Pl
open Go.Proofs.Ytibkaphfhdmjlaa.R Go.Proofs.Ytibkaphfhdmjlaa.XK
set_option linter.unusedVariables false
set_option linter.unusedSimpArgs false

def devB (s : List E_s_u8) (c : List E_Wr) : Prop := (∀ a ∈ s, isBytes a ∧ List.length a ≤ 1000) ∧ (∀ w ∈ c, isBytes w.2 ∧ List.length w.2 ≤ 1000) ∧ s.length ≤ 60 ∧ c.length ≤ 70
def lastK (n : Int) (c : List E_Wr) (d : List Int) : List Int := c.foldl (fun acc w => if w.1 = n then w.2 else acc) d
theorem lastK_mem (n : Int) : ∀ (c : List E_Wr) (d : List Int) (P : List Int → Prop), (∀ w ∈ c, P w.2) → P d → P (lastK n c d)
  | [], d, P, _, h => h
  | w :: c, d, P, hc, h => by
    unfold lastK
    rw [List.foldl_cons]
    refine lastK_mem n c _ P (fun w hw => hc w (by simp [hw])) ?_
    split
    · exact hc w (by simp)
    · exact h
theorem joined1 (a : List Int) (h : a.length ≤ 2097152) : F_impl_joined [a] = some a := joinedOne a h
def readK (s : List E_s_u8) (c : List E_Wr) (z : Int) (n : Int) : List Int := if (devK s c z && inR n 0 ((s.length : Int) - 1)) = true then lastK n c (s.getD n.toNat []) else []
theorem readK_bytes (s : List E_s_u8) (c : List E_Wr) (z n : Int) (h : devB s c) : isBytes (readK s c z n) ∧ (readK s c z n).length ≤ 1000 := by
  unfold readK
  split
  · rename_i hc
    simp only [Bool.and_eq_true, inR_iff] at hc
    refine lastK_mem n c _ (fun l => isBytes l ∧ l.length ≤ 1000) h.2.1 (h.1 _ (getD_mem ([] : List Int) s n hc.2.1 (by omega)))
  · exact ⟨fun y hy => by simp at hy, by simp⟩
theorem spec_ReadSec_eq (s : List E_s_u8) (c : List E_Wr) (z : Int) (b : Bool) (n : Int) (h : devB s c) : F_spec_ReadSec (s, c, z, b, n) = some (readK s c z n) := by
  have hr := readK_bytes s c z n h
  obtain ⟨b1, b2, b3, b4⟩ := h
  unfold F_spec_ReadSec
  simp only [l1In_eq]
  rw [spec_DevOk_eq s c z b (by omega) (by omega), w64 (n := (s.length : Int) - 1) (by omega) (by omega)]
  simp only [Option.bind_some]
  cases hd : devK s c z with
  | false =>
    unfold readK
    rw [hd]
    rfl
  | true =>
    simp only [Bool.not_true, cond_false, Option.bind_some]
    cases hin : inR n 0 ((s.length : Int) - 1) with
    | false =>
      unfold readK
      rw [hd, hin]
      rfl
    | true =>
      have hn := inR_iff.1 hin
      have hrk : readK s c z n = lastK n c (rd_s_u8 s n) := by
        unfold readK
        rw [hd, hin]
        rfl
      simp only [Bool.not_true, cond_false]
      rw [if_pos hn.1, if_pos (by omega)]
      unfold L_spec_ReadSec_5
      refine (loop_fuel (step := S_spec_ReadSec_5 _) (fun t : Int × List Int × Int × List E_s_u8 × List E_Wr × Int × Bool => c.length - t.2.2.1.toNat) (fun t => t.1 = n ∧ 0 ≤ t.2.2.1 ∧ t.2.2.1 ≤ c.length ∧ t.2.2.2.2.1 = c ∧ lastK n (c.drop t.2.2.1.toNat) t.2.1 = readK s c z n) (fun t => some (readK s c z n)) ?_ (n, rd_s_u8 s n, 0, s, c, z, b) ⟨rfl, Int.le_refl _, by simp, rfl, by rw [hrk]; rfl⟩ (by simp; omega))
      rintro again ⟨n', d, i, s', c', z', b'⟩ ⟨rfl, i0, i1, rfl, hk⟩ hag
      simp only at i0 i1 hk hr b2 b3 b4 hn
      unfold S_spec_ReadSec_5
      simp only []
      by_cases hi : i < (c'.length : Int)
      · rw [decide_eq_true hi, cond_true, if_pos i0, if_pos hi, w64 (n := i + 1) (by omega) (by omega)]
        rw [drop_getD z_Wr c' i i0 hi] at hk
        unfold lastK at hk
        rw [List.foldl_cons] at hk
        cases he : ((rd_Wr c' i).1 == n') with
        | true =>
          have he' : (c'.getD i.toNat z_Wr).1 = n' := eq_of_beq he
          rw [if_pos he'] at hk
          rw [cond_true, if_pos i0, if_pos hi]
          exact hag _ ⟨rfl, by simp only; omega, by simp only; omega, rfl, hk⟩ (by simp only; omega)
        | false =>
          have he' : ¬ (c'.getD i.toNat z_Wr).1 = n' := fun hh => by
            rw [show ((rd_Wr c' i).1 == n') = true from beq_iff_eq.2 hh] at he
            cases he
          rw [if_neg he'] at hk
          rw [cond_false]
          exact hag _ ⟨rfl, by simp only; omega, by simp only; omega, rfl, hk⟩ (by simp only; omega)
      · rw [decide_eq_false hi, cond_false]
        rw [List.drop_of_length_le (by omega)] at hk
        have hk' : d = readK s c' z n' := hk
        rw [hk']
        simp only [List.length_nil, List.nil_append]
        rw [if_pos (by omega)]
theorem impl_ReadSec_eq (s : List E_s_u8) (c : List E_Wr) (z : Int) (b : Bool) (n : Int) (h : devB s c) : F_impl_ReadSec (s, c, z, b, n) = some (readK s c z n) := by
  have hr := readK_bytes s c z n h
  obtain ⟨b1, b2, b3, b4⟩ := h
  unfold F_impl_ReadSec
  simp only [within_eq]
  rw [impl_DevOk_eq s c z b (by omega) (by omega), w64 (n := (s.length : Int) - 1) (by omega) (by omega)]
  simp only [Option.bind_some]
  cases hd : devK s c z with
  | false =>
    unfold readK
    rw [hd]
    rfl
  | true =>
    simp only [Bool.not_true, cond_false, Option.bind_some]
    cases hin : inR n 0 ((s.length : Int) - 1) with
    | false =>
      unfold readK
      rw [hd, hin]
      rfl
    | true =>
      have hn := inR_iff.1 hin
      have hrk : readK s c z n = lastK n c (rd_s_u8 s n) := by
        unfold readK
        rw [hd, hin]
        rfl
      simp only [Bool.not_true, cond_false]
      rw [w64 (n := (c.length : Int) - 1) (by omega) (by omega)]
      unfold L_impl_ReadSec_4
      refine (loop_fuel (step := S_impl_ReadSec_4 _ _) (fun t : Int × Int × List E_s_u8 × List E_Wr × Int × Bool => (t.2.1 + 1).toNat) (fun t => t.1 = n ∧ -1 ≤ t.2.1 ∧ t.2.1 < c.length ∧ t.2.2.1 = s ∧ t.2.2.2.1 = c ∧ lastK n (c.take (t.2.1 + 1).toNat) (rd_s_u8 s n) = readK s c z n) (fun t => some (readK s c z n)) ?_ (n, (c.length : Int) - 1, s, c, z, b) ⟨rfl, by simp only; omega, by simp only; omega, rfl, rfl, by simp only; rw [List.take_of_length_le (by omega), hrk]⟩ (by simp only; omega))
      rintro again ⟨n', i, s', c', z', b'⟩ ⟨rfl, i0, i1, rfl, rfl, hk⟩ hag
      simp only at i0 i1 hk hr b2 b3 b4 hn
      unfold S_impl_ReadSec_4
      simp only []
      by_cases hi : i ≥ 0
      · rw [decide_eq_true hi, cond_true, if_pos hi, if_pos i1, w64 (n := i - 1) (by omega) (by omega)]
        have htk : c'.take (i + 1).toNat = c'.take i.toNat ++ [c'.getD i.toNat z_Wr] := by
          rw [show (i + 1).toNat = i.toNat + 1 by omega, List.take_succ_eq_append_getElem (by omega), getD_get z_Wr c' i hi i1]
        rw [htk] at hk
        unfold lastK at hk
        rw [List.foldl_append, List.foldl_cons, List.foldl_nil] at hk
        cases he : ((rd_Wr c' i).1 == n') with
        | true =>
          have he' : (c'.getD i.toNat z_Wr).1 = n' := eq_of_beq he
          rw [if_pos he'] at hk
          rw [cond_true, if_pos hi, if_pos i1]
          have hk' : (rd_Wr c' i).2 = readK s' c' z n' := hk
          rw [hk', joined1 _ (by omega)]
          rfl
        | false =>
          have he' : ¬ (c'.getD i.toNat z_Wr).1 = n' := fun hh => by
            rw [show ((rd_Wr c' i).1 == n') = true from beq_iff_eq.2 hh] at he
            cases he
          rw [if_neg he'] at hk
          rw [cond_false]
          exact hag _ ⟨rfl, by simp only; omega, by simp only; omega, rfl, rfl, by simp only; rw [show (i - 1 + 1).toNat = i.toNat by omega]; exact hk⟩ (by simp only; omega)
      · rw [decide_eq_false hi, cond_false]
        have hi' : i = -1 := by omega
        subst hi'
        have hk' : rd_s_u8 s' n' = readK s' c' z n' := hk
        rw [if_pos hn.1, if_pos (by omega), hk', joined1 _ (by omega)]
        rfl
/-! ### The tail -/
/-! ### Any device -/
def devG (s : List E_s_u8) (c : List E_Wr) (z : Int) : Prop := (devK s c z = true → devB s c) ∧ s.length ≤ 1048576 ∧ c.length ≤ 1048576
theorem readK_g (s : List E_s_u8) (c : List E_Wr) (z n : Int) (h : devG s c z) : isBytes (readK s c z n) ∧ (readK s c z n).length ≤ 1000 := by
  cases hd : devK s c z with
  | true => exact readK_bytes s c z n (h.1 hd)
  | false =>
    unfold readK
    rw [hd]
    exact ⟨fun y hy => by simp at hy, by simp⟩
theorem spec_ReadSec_g (s : List E_s_u8) (c : List E_Wr) (z : Int) (b : Bool) (n : Int) (h : devG s c z) : F_spec_ReadSec (s, c, z, b, n) = some (readK s c z n) := by
  cases hd : devK s c z with
  | true => exact spec_ReadSec_eq s c z b n (h.1 hd)
  | false =>
    unfold F_spec_ReadSec readK
    simp only [l1In_eq]
    rw [spec_DevOk_eq s c z b h.2.1 h.2.2, hd]
    rfl
theorem impl_ReadSec_g (s : List E_s_u8) (c : List E_Wr) (z : Int) (b : Bool) (n : Int) (h : devG s c z) : F_impl_ReadSec (s, c, z, b, n) = some (readK s c z n) := by
  cases hd : devK s c z with
  | true => exact impl_ReadSec_eq s c z b n (h.1 hd)
  | false =>
    unfold F_impl_ReadSec readK
    simp only [within_eq]
    rw [impl_DevOk_eq s c z b h.2.1 h.2.2, hd]
    rfl
theorem anyE_no {A : Type} (p : Int → A → Bool) : ∀ (l : List A) (i : Int), anyE p l i = false → ∀ a ∈ l, ∃ j, p j a = false
  | [], _, _, a, h => by simp at h
  | b :: l, i, h, a, ha => by
    simp only [anyE, Bool.or_eq_false_iff] at h
    rcases List.mem_cons.1 ha with rfl | ha
    · exact ⟨i, h.1⟩
    · exact anyE_no p l (i + 1) h.2 a ha
/-- A device whose bytes are bytes. -/
theorem dev_g {s : List E_s_u8} {c : List E_Wr} {z : Int} (hsm : smallD s c) (hb : ∀ a ∈ s, isBytes a) (hb2 : ∀ a ∈ c, isBytes a.2) : devG s c z := by
  refine ⟨fun hd => ?_, hsm.1, hsm.2.1⟩
  unfold devK at hd
  simp only [Bool.and_eq_true, Bool.not_eq_true', inR_iff, decide_eq_true_eq] at hd
  obtain ⟨d1, d2, ⟨⟨_, d3⟩, d4⟩, _⟩ := hd
  refine ⟨fun a ha => ⟨hb a ha, ?_⟩, fun a ha => ⟨hb2 a ha, ?_⟩, by omega, by omega⟩
  · obtain ⟨i, hi⟩ := anyE_no bigB s 0 d1 a ha
    have := of_decide_eq_false hi
    omega
  · obtain ⟨i, hi⟩ := anyE_no (badW s.length) c 0 d2 a ha
    unfold badW at hi
    simp only [Bool.or_eq_false_iff] at hi
    have := of_decide_eq_false hi.2
    omega
end Go.Proofs.Ytibkaphfhdmjlaa.Pl

/- A device is marked, and the marks are held. No condition. -/
namespace Go.Proofs.Ytibkaphfhdmjlaa.Pl
open Go.Proofs.Ytibkaphfhdmjlaa.R Go.Proofs.Ytibkaphfhdmjlaa.XK
set_option linter.unusedVariables false
set_option linter.unusedSimpArgs false

def mkS (a : E_s_u8) (k : Int) : E_s_u8 := mkB k (List.length a)
theorem markByteSS_eq (l : List E_s_u8) (k : Int) (h0 : 0 ≤ k) (hl : l.length ≤ 1048576) (hk : k + sumW lenB l ≤ bigN) : F_laws_markByteSS (l, k) = some (k + sumW lenB l, marksL mkS lenB l k) := by
  unfold F_laws_markByteSS L_laws_markByteSS_2
  refine mark_loop z_s_u8 mkS lenB lenB_nonneg (fun _ => True) (fun x2 => some (x2.1, x2.2)) bigN ?_ ?_ l k h0 (by omega) hk (fun _ _ => trivial)
  · intro again k i l h0 h1 hk hM hl _
    unfold S_laws_markByteSS_2
    have hb : lenB (l.getD i.toNat z_s_u8) = (List.length (l.getD i.toNat z_s_u8) : Int) := rfl
    unfold bigN at hM
    have hw : Go.IntKind.wrap .i64 (i + 1) = i + 1 := w64 (by omega) (by omega)
    have he : F_laws_markByteS ((rd_s_u8 l i), k) = some (k + lenB (l.getD i.toNat z_s_u8), mkS (l.getD i.toNat z_s_u8) k) := markByteS_eq (l.getD i.toNat z_s_u8) k hk (by omega) (by omega)
    simp only [Bool.cond_eq_ite, decide_eq_true_eq, h0, h1, if_true, hw, he, Option.bind_some]
  · intro again k i l hi
    unfold S_laws_markByteSS_2
    simp only [Bool.cond_eq_ite, decide_eq_true_eq, if_neg hi]
def cntW (a : E_Wr) : Int := 1 + lenW a
theorem cntW_nonneg (a : E_Wr) : 0 ≤ cntW a := by
  have := lenW_nonneg a
  unfold cntW
  omega
def mkW (a : E_Wr) (k : Int) : E_Wr := (k, mkB (k + 1) (List.length a.2))
theorem sum_cntW (l : List E_Wr) : sumW cntW l = l.length + sumW lenW l := by
  induction l with
  | nil => rfl
  | cons a l ih =>
    rw [sumW_cons, sumW_cons, ih]
    unfold cntW
    simp only [List.length_cons]
    omega
theorem markWrS_eq (l : List E_Wr) (k : Int) (h0 : 0 ≤ k) (hl : l.length ≤ 1048576) (hk : k + sumW cntW l ≤ bigN) : F_laws_markWrS (l, k) = some (k + sumW cntW l, marksL mkW cntW l k) := by
  unfold F_laws_markWrS L_laws_markWrS_2
  refine mark_loop z_Wr mkW cntW cntW_nonneg (fun _ => True) (fun x2 => some (x2.1, x2.2)) bigN ?_ ?_ l k h0 (by omega) hk (fun _ _ => trivial)
  · intro again k i l h0 h1 hk hM hl _
    unfold S_laws_markWrS_2
    have hb : cntW (l.getD i.toNat z_Wr) = 1 + (List.length (l.getD i.toNat z_Wr).2 : Int) := rfl
    unfold bigN at hM
    have hw : Go.IntKind.wrap .i64 (i + 1) = i + 1 := w64 (by omega) (by omega)
    have hw2 : Go.IntKind.wrap .i64 (k + 1) = k + 1 := w64 (by omega) (by omega)
    have hr : ∀ v : E_Wr, rd_Wr (l.set i.toNat v) i = v := fun v => set_rd z_Wr l i v h0 h1
    have he : F_laws_markByteS ((rd_Wr l i).2, k + 1) = some (k + cntW (l.getD i.toNat z_Wr), mkB (k + 1) (List.length (l.getD i.toNat z_Wr).2)) := by
      refine (markByteS_eq (l.getD i.toNat z_Wr).2 (k + 1) (by omega) (by omega) (by omega)).trans ?_
      rw [hb, Int.add_assoc]
    simp only [Bool.cond_eq_ite, decide_eq_true_eq, h0, h1, if_true, hw, hw2, hr, he, Option.bind_some, List.length_set, List.set_set, mkW]
  · intro again k i l hi
    unfold S_laws_markWrS_2
    simp only [Bool.cond_eq_ite, decide_eq_true_eq, if_neg hi]
/-- A device, marked from 1 on. -/
theorem markDev_eq (s : List E_s_u8) (c : List E_Wr) (z : Int) (b : Bool) (h : smallD s c) : F_laws_markDev (s, c, z, b, 1) = some (1 + sumW lenB s + sumW cntW c, marksL mkS lenB s 1, marksL mkW cntW c (1 + sumW lenB s)) := by
  obtain ⟨h1, h2, h3, h4⟩ := h
  have w1 := sumW_nonneg lenB_nonneg s
  have w2 := sumW_nonneg lenW_nonneg c
  unfold F_laws_markDev
  simp only [markByteSS_eq s 1 (by omega) h1 (by unfold bigN; omega), markWrS_eq c (1 + sumW lenB s) (by omega) h2 (by rw [sum_cntW]; unfold bigN; omega), Option.bind_some]
end Go.Proofs.Ytibkaphfhdmjlaa.Pl

/- Images, read: both sides; the law of ReadImage. No condition. -/
namespace Go.Proofs.Ytibkaphfhdmjlaa.Pl
open Go.Proofs.Ytibkaphfhdmjlaa.R Go.Proofs.Ytibkaphfhdmjlaa.XK
set_option linter.unusedVariables false
set_option linter.unusedSimpArgs false

def partV (side i : Int) : Int := if inR side 0 1 = true then 8 + side * 24 + i else -1
theorem spec_PartV_eq (side i : Int) (h0 : 0 ≤ i) (h1 : i ≤ 23) : F_spec_PartAt (side, i) = some (partV side i) := by
  unfold F_spec_PartAt partV
  simp only [l1In_eq, inR_iff.2 ⟨h0, h1⟩, Option.bind_some, Bool.not_true]
  cases h : inR side 0 1 with
  | false => rfl
  | true =>
    have hs := inR_iff.1 h
    simp only [Bool.not_true, cond_false, Option.bind_some, if_true]
    rw [w64 (n := side * 24) (by omega) (by omega), w64 (n := 8 + side * 24) (by omega) (by omega), w64 (by omega) (by omega)]
theorem impl_PartV_eq (side i : Int) (h0 : 0 ≤ i) (h1 : i ≤ 23) : F_impl_PartAt (side, i) = some (partV side i) := by
  unfold F_impl_PartAt partV
  simp only [within_eq, inR_iff.2 ⟨h0, h1⟩, Option.bind_some, Bool.not_true]
  cases h : inR side 0 1 with
  | false => rfl
  | true =>
    have hs := inR_iff.1 h
    simp only [Bool.not_true, cond_false, Option.bind_some, if_true]
    rw [w64 (n := side * 24) (by omega) (by omega), w64 (n := 8 + side * 24) (by omega) (by omega), w64 (by omega) (by omega)]
def rimK (s : List E_s_u8) (c : List E_Wr) (z side len : Int) : Nat → Int → List Int → List Int
  | 0, _, o => o
  | m + 1, i, o => if (o.length : Int) < len then rimK s c z side len m (i + 1) (o ++ readK s c z (partV side i)) else o
theorem rimK_ok (s : List E_s_u8) (c : List E_Wr) (z side len : Int) (h : devG s c z) : ∀ (m : Nat) (i : Int) (o : List Int), isBytes o → isBytes (rimK s c z side len m i o) ∧ (rimK s c z side len m i o).length ≤ o.length + 1000 * m
  | 0, _, o, ho => ⟨ho, by simp [rimK]⟩
  | m + 1, i, o, ho => by
    rw [rimK]
    split
    · have hr := readK_g s c z (partV side i) h
      have ih := rimK_ok s c z side len h m (i + 1) (o ++ readK s c z (partV side i)) (fun x hx => (List.mem_append.1 hx).elim (ho x) (hr.1 x))
      refine ⟨ih.1, ?_⟩
      have := ih.2
      rw [List.length_append] at this
      have := hr.2
      omega
    · exact ⟨ho, by omega⟩
theorem rimK_end (s : List E_s_u8) (c : List E_Wr) (z side len : Int) (m : Nat) (i : Int) (o : List Int) (h : ¬ (o.length : Int) < len) : rimK s c z side len m i o = o := by
  cases m with
  | zero => rfl
  | succ m => rw [rimK, if_neg h]
abbrev RI : Type := Int × List E_s_u8 × List E_Wr × Int × Bool × Int × Int × Int × Int × Int × List E_u8
/-- A loop that reads parts. -/
theorem rim_loop {R : Type} {step : (RI → Option R) → RI → Option R} (k0 : Int × Int × Int × Int × Int × List E_u8 → Option R) (s : List E_s_u8) (c : List E_Wr) (z : Int) (b : Bool) (gen side len sum seq : Int) (h : devG s c z)
    (hs : ∀ again i o, 0 ≤ i → i < 24 → (List.length o : Int) < len → List.length o ≤ 100000 → step again (i, s, c, z, b, gen, side, len, sum, seq, o) = again (i + 1, s, c, z, b, gen, side, len, sum, seq, o ++ readK s c z (partV side i)))
    (hd : ∀ again i o, ¬ (i < 24 ∧ (List.length o : Int) < len) → step again (i, s, c, z, b, gen, side, len, sum, seq, o) = k0 (gen, side, len, sum, seq, o)) :
    iter step FUEL (0, s, c, z, b, gen, side, len, sum, seq, []) = k0 (gen, side, len, sum, seq, rimK s c z side len 24 0 []) := by
  refine loop_fuel (fun t : RI => 24 - t.1.toNat) (fun t => 0 ≤ t.1 ∧ t.1 ≤ 24 ∧ t.2.1 = s ∧ t.2.2.1 = c ∧ t.2.2.2.1 = z ∧ t.2.2.2.2.1 = b ∧ t.2.2.2.2.2.1 = gen ∧ t.2.2.2.2.2.2.1 = side ∧ t.2.2.2.2.2.2.2.1 = len ∧ t.2.2.2.2.2.2.2.2.1 = sum ∧ t.2.2.2.2.2.2.2.2.2.1 = seq ∧ (List.length t.2.2.2.2.2.2.2.2.2.2 : Int) ≤ 1000 * t.1) (fun t => k0 (gen, side, len, sum, seq, rimK s c z side len (24 - t.1.toNat) t.1 t.2.2.2.2.2.2.2.2.2.2)) ?_ (0, s, c, z, b, gen, side, len, sum, seq, []) ⟨Int.le_refl _, by simp, rfl, rfl, rfl, rfl, rfl, rfl, rfl, rfl, rfl, by simp⟩ (by simp)
  rintro again ⟨i, s', c', z', b', gen', side', len', sum', seq', o⟩ ⟨i0, i1, h1, h2, h3, h4, h5, h6, h7, h8, h9, ho⟩ hag
  simp only at i0 i1 h1 h2 h3 h4 h5 h6 h7 h8 h9 ho ⊢
  subst h1 h2 h3 h4 h5 h6 h7 h8 h9
  by_cases hi : i < 24 ∧ (List.length o : Int) < len'
  · have hr := readK_g s' c' z' (partV side' i) h
    rw [hs again i o i0 hi.1 hi.2 (by omega), hag _ ⟨by simp only; omega, by simp only; omega, rfl, rfl, rfl, rfl, rfl, rfl, rfl, rfl, rfl, by
      simp only
      rw [List.length_append]
      omega⟩ (by simp only; omega)]
    have e1 : 24 - i.toNat = (24 - (i + 1).toNat) + 1 := by omega
    rw [e1, rimK, if_pos hi.2]
  · rw [hd again i o hi]
    by_cases h24 : i < 24
    · rw [rimK_end _ _ _ _ _ _ _ _ (fun hl => hi ⟨h24, hl⟩)]
    · rw [show 24 - i.toNat = 0 by omega]
      rfl
noncomputable def rimR (s : List E_s_u8) (c : List E_Wr) (z side len sum : Int) : List Int × Bool :=
  if len < 0 then ([], false) else if ((rimK s c z side len 24 0 []).length : Int) < len then ([], false) else if crc ((rimK s c z side len 24 0 []).take len.toNat) = sum then ((rimK s c z side len 24 0 []).take len.toNat, true) else ([], false)
theorem rimR_ok (s : List E_s_u8) (c : List E_Wr) (z side len sum : Int) (h : devG s c z) : isBytes (rimR s c z side len sum).1 ∧ (rimR s c z side len sum).1.length ≤ 24000 := by
  have hk := rimK_ok s c z side len h 24 0 [] (fun y hy => by simp at hy)
  have h0 : isBytes ([] : List Int) := fun y hy => by simp at hy
  unfold rimR
  split
  · exact ⟨h0, by simp⟩
  · split
    · exact ⟨h0, by simp⟩
    · split
      · refine ⟨isBytes_take hk.1 _, ?_⟩
        simp only [List.length_take]
        have := hk.2
        simp only [List.length_nil] at this
        omega
      · exact ⟨h0, by simp⟩
theorem spec_rim {R : Type} (k0 : Int × Int × Int × Int × Int × List E_u8 → Option R) (s : List E_s_u8) (c : List E_Wr) (z : Int) (b : Bool) (gen side len sum seq : Int) (h : devG s c z) :
    L_spec_ReadImage_3 k0 (0, s, c, z, b, gen, side, len, sum, seq, []) = k0 (gen, side, len, sum, seq, rimK s c z side len 24 0 []) := by
  unfold L_spec_ReadImage_3
  refine rim_loop (step := S_spec_ReadImage_3 k0) k0 s c z b gen side len sum seq h ?_ ?_
  · intro again i o i0 i1 hl ho
    have hr := readK_g s c z (partV side i) h
    have hw : Go.IntKind.wrap .i64 (i + 1) = i + 1 := w64 (by omega) (by omega)
    unfold S_spec_ReadImage_3
    simp only [decide_eq_true i1, decide_eq_true hl, cond_true, Option.bind_some, spec_PartV_eq side i i0 (by omega), spec_ReadSec_g s c z b _ h, hw]
    rw [if_pos (by omega)]
  · intro again i o hi
    unfold S_spec_ReadImage_3
    by_cases h24 : i < 24
    · simp only [decide_eq_true h24, decide_eq_false (fun hl => hi ⟨h24, hl⟩), cond_true, Option.bind_some, cond_false]
    · simp only [decide_eq_false h24, cond_false, Option.bind_some]
theorem spec_ReadImage_eq (s : List E_s_u8) (c : List E_Wr) (z : Int) (b : Bool) (gen side len sum seq : Int) (h : devG s c z) : F_spec_ReadImage (s, c, z, b, gen, side, len, sum, seq) = some (rimR s c z side len sum) := by
  have hk := rimK_ok s c z side len h 24 0 [] (fun y hy => by simp at hy)
  have hlen : (rimK s c z side len 24 0 []).length ≤ 24000 := by
    have := hk.2
    simp only [List.length_nil] at this
    omega
  unfold F_spec_ReadImage
  rw [spec_rim _ s c z b gen side len sum seq h]
  unfold rimR
  generalize rimK s c z side len 24 0 [] = o at hk hlen ⊢
  simp only []
  by_cases hn : len < 0
  · rw [if_pos hn, decide_eq_true hn]
    rfl
  · rw [if_neg hn, decide_eq_false hn]
    by_cases hs : (o.length : Int) < len
    · rw [if_pos hs, decide_eq_true hs]
      rfl
    · have hd : List.drop (Int.toNat (0 : Int)) (List.take len.toNat o) = List.take len.toNat o := rfl
      have hlt : (List.take len.toNat o).length ≤ 24000 := by
        rw [List.length_take]
        omega
      rw [if_neg hs, decide_eq_false hs]
      simp only [cond_false, Option.bind_some, hd, List.nil_append, List.length_nil]
      rw [if_pos (by omega), if_pos (by omega), if_pos (by omega), spec_Crc_eq _ (isBytes_take hk.1 _) (by omega)]
      simp only [Option.bind_some]
      by_cases hc : crc (List.take len.toNat o) = sum
      · rw [if_pos hc, show (crc (List.take len.toNat o) != sum) = false from by simpa using hc, cond_false, if_pos (by omega), if_pos (by omega), if_pos (by omega), if_pos (by omega)]
      · rw [if_neg hc, show (crc (List.take len.toNat o) != sum) = true from by simpa using hc, cond_true]
theorem impl_rim {R : Type} (k0 : Int × Int × Int × Int × Int × List E_u8 → Option R) (s : List E_s_u8) (c : List E_Wr) (z : Int) (b : Bool) (gen side len sum seq : Int) (h : devG s c z) :
    L_impl_ReadImage_3 k0 (0, s, c, z, b, gen, side, len, sum, seq, []) = k0 (gen, side, len, sum, seq, rimK s c z side len 24 0 []) := by
  unfold L_impl_ReadImage_3
  refine rim_loop (step := S_impl_ReadImage_3 k0) k0 s c z b gen side len sum seq h ?_ ?_
  · intro again i o i0 i1 hl ho
    have hr := readK_g s c z (partV side i) h
    have hw : Go.IntKind.wrap .i64 (i + 1) = i + 1 := w64 (by omega) (by omega)
    unfold S_impl_ReadImage_3
    simp only [decide_eq_true i1, decide_eq_true hl, cond_true, Option.bind_some, impl_PartV_eq side i i0 (by omega), impl_ReadSec_g s c z b _ h, hw]
    rw [if_pos (by omega)]
  · intro again i o hi
    unfold S_impl_ReadImage_3
    by_cases h24 : i < 24
    · simp only [decide_eq_true h24, decide_eq_false (fun hl => hi ⟨h24, hl⟩), cond_true, Option.bind_some, cond_false]
    · simp only [decide_eq_false h24, cond_false, Option.bind_some]
theorem impl_ReadImage_eq (s : List E_s_u8) (c : List E_Wr) (z : Int) (b : Bool) (gen side len sum seq : Int) (h : devG s c z) : F_impl_ReadImage (s, c, z, b, gen, side, len, sum, seq) = some (rimR s c z side len sum) := by
  have hk := rimK_ok s c z side len h 24 0 [] (fun y hy => by simp at hy)
  have hlen : (rimK s c z side len 24 0 []).length ≤ 24000 := by
    have := hk.2
    simp only [List.length_nil] at this
    omega
  unfold F_impl_ReadImage
  rw [impl_rim _ s c z b gen side len sum seq h]
  unfold rimR
  generalize rimK s c z side len 24 0 [] = o at hk hlen ⊢
  simp only [within_eq, Option.bind_some]
  cases hin : inR len 0 ((List.length o : Nat) : Int) with
  | false =>
    have hno : ¬ (0 ≤ len ∧ len ≤ (o.length : Int)) := fun hh => by rw [inR_iff.2 hh] at hin; cases hin
    by_cases hn : len < 0
    · rw [if_pos hn]
      rfl
    · rw [if_neg hn, if_pos (show ((List.length o : Nat) : Int) < len by omega)]
      rfl
  | true =>
    have hl := inR_iff.1 hin
    have hlt : (List.take len.toNat o).length ≤ 24000 := by
      rw [List.length_take]
      omega
    rw [if_neg (show ¬ len < 0 by omega), if_neg (show ¬ (o.length : Int) < len by omega)]
    by_cases hc : crc (List.take len.toNat o) = sum
    · simp only [Bool.not_true, cond_false, hl.1, hl.2, if_true, Int.le_refl, impl_Crc_eq _ (isBytes_take hk.1 len.toNat) (show (List.take len.toNat o).length ≤ 1099511627776 by omega), Option.bind_some, show (crc (List.take len.toNat o) != sum) = false from by simpa using hc]
      rw [if_pos hc]
    · simp only [Bool.not_true, cond_false, cond_true, hl.1, hl.2, if_true, Int.le_refl, impl_Crc_eq _ (isBytes_take hk.1 len.toNat) (show (List.take len.toNat o).length ≤ 1099511627776 by omega), Option.bind_some, show (crc (List.take len.toNat o) != sum) = true from by simpa using hc]
      rw [if_neg hc]
theorem law_ReadImage (s : List E_s_u8) (c : List E_LWr) (z : Int) (b : Bool) (gen side len sum seq : Int) (hs : s.length ≤ maxLen) (hss : ∀ a ∈ s, List.length a ≤ maxLen) (hc : c.length ≤ maxLen) (hcc : ∀ a ∈ c, List.length a.2 ≤ maxLen) (hb : ∀ a ∈ s, isBytes a) (hb2 : ∀ a ∈ c, isBytes a.2) : F_laws_FnExactReadImage (s, c, z, b, gen, side, len, sum, seq) = some true := by
  unfold F_laws_FnExactReadImage
  rcases szDev_ok s c z b hs hss hc hcc with h | ⟨r, h, r0, r1, hsm⟩
  · simp only [h, Option.bind_some]
    rfl
  · have hdev : devG s c z := dev_g hsm hb hb2
    have hR := rimR_ok s c z side len sum hdev
    have w1 := sumW_nonneg lenB_nonneg s
    have w2 := sumW_nonneg cntW_nonneg c
    simp only [h, toDev_eq s c z b hsm, F_laws_toSuper, eqDev_refl s c z b hsm, spec_ReadImage_eq s c z b gen side len sum seq hdev, impl_ReadImage_eq s c z b gen side len sum seq hdev, markDev_eq s c z b hsm, eqByteS_refl (rimR s c z side len sum).1 (by omega), markByteS_eq (rimR s c z side len sum).1 1 (by omega) (by omega) (by omega), heldByteS_eq 1 (rimR s c z side len sum).1.length (by omega) (by omega) (by omega), Option.bind_some]
    rw [decide_eq_false (show ¬ r < 0 by omega), decide_eq_false (show ¬ (1 + sumW lenB s + sumW cntW c) < 0 by omega), decide_eq_false (show ¬ (1 + ((rimR s c z side len sum).1.length : Int)) < 0 by omega)]
    simp
end Go.Proofs.Ytibkaphfhdmjlaa.Pl

