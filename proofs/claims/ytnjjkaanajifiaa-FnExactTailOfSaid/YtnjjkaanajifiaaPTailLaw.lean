/- Dev, EntDraw, GetEnt, GetEnt2, GetEnt3, PutEnt, TailDraw, TailDraw2, Tails, TailG, TailLaw. No condition. -/
import Derived.Test.YtnjjkaanajifiaaPPut4
/- Devices: sizes, copies, comparisons, what is right. No condition. -/
namespace Go.Proofs.Ytnjjkaanajifiaa.Pl
open Go.Proofs.Ytnjjkaanajifiaa.R Go.Proofs.Ytnjjkaanajifiaa.XV
set_option linter.unusedVariables false
set_option linter.unusedSimpArgs false

theorem szByteS_ok (l : List E_u8) (hl : l.length ≤ maxLen) (n : Int) (hn0 : 0 ≤ n) (hn1 : n ≤ 1048576) : szOk n (l.length : Nat) (F_laws_szByteS (l, n)) := sz_flat n l.length hn0 hn1 hl
theorem szByteSS_ok (l : List E_s_u8) (hl : l.length ≤ maxLen) (hm : ∀ a ∈ l, List.length a ≤ maxLen) (n : Int) (hn0 : 0 ≤ n) (hn1 : n ≤ 1048576) : szOk n ((l.length : Int) + sumW (fun a : E_s_u8 => (List.length a : Int)) l) (F_laws_szByteSS (l, n)) := by
  simp only [maxLen] at hl
  unfold F_laws_szByteSS L_laws_szByteSS_5
  simp only [Bool.cond_eq_ite, decide_eq_true_eq]
  rw [w64 (n := n - l.length) (by omega) (by omega)]
  by_cases h : n - (l.length : Int) < 0
  · rw [if_pos h]
    exact ⟨-1, rfl, .inl (by omega)⟩
  · rw [if_neg h]
    have hs : ∀ again (n i r : Int), 0 ≤ i → i < (l.length : Int) → F_laws_szByteS (l.getD i.toNat z_s_u8, n) = some r → S_laws_szByteSS_5 (fun x2 => some x2.2) (fun x3 => some x3) again (l, n, i) = if r < 0 then some (-1 : Int) else again (l, r, i + 1) := by
      intro again n i r h0 h1 hr
      unfold S_laws_szByteSS_5
      have hw : Go.IntKind.wrap .i64 (i + 1) = i + 1 := w64 (by omega) (by omega)
      have hr' : F_laws_szByteS ((rd_s_u8 l i), n) = some r := hr
      simp only [Bool.cond_eq_ite, decide_eq_true_eq, h0, h1, if_true, hw, hr', Option.bind_some]
    have hd : ∀ again (n i : Int), ¬ i < (l.length : Int) → S_laws_szByteSS_5 (fun x2 => some x2.2) (fun x3 => some x3) again (l, n, i) = some n := by
      intro again n i hi
      unfold S_laws_szByteSS_5
      simp only [Bool.cond_eq_ite, decide_eq_true_eq, if_neg hi]
    rcases sz_loop z_s_u8 (fun a : E_s_u8 => (List.length a : Int)) (fun a n => F_laws_szByteS (a, n)) (step := S_laws_szByteSS_5 (fun x2 => some x2.2) (fun x3 => some x3)) (fun x2 => some x2.2) (fun x3 => some x3) l (by omega) (fun a => by exact Int.natCast_nonneg _) (fun a ha n h0 h1 => szByteS_ok a (hm a ha) n h0 h1) hs hd (n - l.length) (by omega) (by omega) with ⟨r, e⟩ | ⟨r, r0, r1, e⟩
    · rw [e]
      exact ⟨-1, rfl, .inl (by omega)⟩
    · rw [e]
      exact ⟨r, rfl, .inr ⟨r0, by omega⟩⟩
theorem szWr_ok (a : E_LWr) (hl : List.length a.2 ≤ maxLen) (n : Int) (hn0 : 0 ≤ n) (hn1 : n ≤ 1048576) : szOk n (List.length a.2 : Nat) (F_laws_szWr (a.1, a.2, n)) := by
  obtain ⟨r, hr, hc⟩ := szByteS_ok a.2 hl n hn0 hn1
  unfold F_laws_szWr
  simp only [hr, Option.bind_some, Bool.cond_eq_ite, decide_eq_true_eq]
  rcases hc with hc | ⟨h0, h1⟩
  · rw [if_pos hc]
    exact ⟨-1, rfl, .inl (by omega)⟩
  · rw [if_neg (by omega)]
    exact ⟨r, rfl, .inr ⟨h0, h1⟩⟩
theorem szWrS_ok (l : List E_LWr) (hl : l.length ≤ maxLen) (hm : ∀ a ∈ l, List.length a.2 ≤ maxLen) (n : Int) (hn0 : 0 ≤ n) (hn1 : n ≤ 1048576) : szOk n ((l.length : Int) + sumW (fun a : E_LWr => (List.length a.2 : Int)) l) (F_laws_szWrS (l, n)) := by
  simp only [maxLen] at hl
  unfold F_laws_szWrS L_laws_szWrS_5
  simp only [Bool.cond_eq_ite, decide_eq_true_eq]
  rw [w64 (n := n - l.length) (by omega) (by omega)]
  by_cases h : n - (l.length : Int) < 0
  · rw [if_pos h]
    exact ⟨-1, rfl, .inl (by omega)⟩
  · rw [if_neg h]
    have hs : ∀ again (n i r : Int), 0 ≤ i → i < (l.length : Int) → F_laws_szWr ((l.getD i.toNat z_LWr).1, (l.getD i.toNat z_LWr).2, n) = some r → S_laws_szWrS_5 (fun x2 => some x2.2) (fun x3 => some x3) again (l, n, i) = if r < 0 then some (-1 : Int) else again (l, r, i + 1) := by
      intro again n i r h0 h1 hr
      unfold S_laws_szWrS_5
      have hw : Go.IntKind.wrap .i64 (i + 1) = i + 1 := w64 (by omega) (by omega)
      have hr' : F_laws_szWr ((rd_LWr l i).1, (rd_LWr l i).2, n) = some r := hr
      simp only [Bool.cond_eq_ite, decide_eq_true_eq, h0, h1, if_true, hw, hr', Option.bind_some]
    have hd : ∀ again (n i : Int), ¬ i < (l.length : Int) → S_laws_szWrS_5 (fun x2 => some x2.2) (fun x3 => some x3) again (l, n, i) = some n := by
      intro again n i hi
      unfold S_laws_szWrS_5
      simp only [Bool.cond_eq_ite, decide_eq_true_eq, if_neg hi]
    rcases sz_loop z_LWr (fun a : E_LWr => (List.length a.2 : Int)) (fun a n => F_laws_szWr (a.1, a.2, n)) (step := S_laws_szWrS_5 (fun x2 => some x2.2) (fun x3 => some x3)) (fun x2 => some x2.2) (fun x3 => some x3) l (by omega) (fun a => by exact Int.natCast_nonneg _) (fun a ha n h0 h1 => szWr_ok a (hm a ha) n h0 h1) hs hd (n - l.length) (by omega) (by omega) with ⟨r, e⟩ | ⟨r, r0, r1, e⟩
    · rw [e]
      exact ⟨-1, rfl, .inl (by omega)⟩
    · rw [e]
      exact ⟨r, rfl, .inr ⟨r0, by omega⟩⟩
def lenB (a : E_s_u8) : Int := (List.length a : Int)
def lenW (a : E_LWr) : Int := (List.length a.2 : Int)
def smallD (s : List E_s_u8) (c : List E_LWr) : Prop := s.length ≤ 1048576 ∧ c.length ≤ 1048576 ∧ sumW lenB s ≤ 1048576 ∧ sumW lenW c ≤ 1048576
theorem lenB_nonneg (a : E_s_u8) : 0 ≤ lenB a := Int.natCast_nonneg _
theorem lenW_nonneg (a : E_LWr) : 0 ≤ lenW a := Int.natCast_nonneg _
theorem sec_small {s : List E_s_u8} (h : sumW lenB s ≤ 1048576) {a : E_s_u8} (ha : a ∈ s) : List.length a ≤ 1048576 := by
  have h4 := (sumW_mem lenB_nonneg ha).1
  have h5 : lenB a = (List.length a : Int) := rfl
  omega
theorem wr_small {c : List E_LWr} (h : sumW lenW c ≤ 1048576) {a : E_LWr} (ha : a ∈ c) : List.length a.2 ≤ 1048576 := by
  have h4 := (sumW_mem lenW_nonneg ha).1
  have h5 : lenW a = (List.length a.2 : Int) := rfl
  omega
theorem szDev_ok (s : List E_s_u8) (c : List E_LWr) (z : Int) (b : Bool) (hs : s.length ≤ maxLen) (hss : ∀ a ∈ s, List.length a ≤ maxLen) (hc : c.length ≤ maxLen) (hcc : ∀ a ∈ c, List.length a.2 ≤ maxLen) :
    F_laws_szDev (s, c, z, b, 1048576) = some (-1) ∨ ∃ r, F_laws_szDev (s, c, z, b, 1048576) = some r ∧ 0 ≤ r ∧ r ≤ 1048576 ∧ smallD s c := by
  have w1 := sumW_nonneg lenB_nonneg s
  have w2 := sumW_nonneg lenW_nonneg c
  have e1 : sumW (fun a : E_s_u8 => (List.length a : Int)) s = sumW lenB s := rfl
  have e2 : sumW (fun a : E_LWr => (List.length a.2 : Int)) c = sumW lenW c := rfl
  unfold F_laws_szDev
  rcases szStep _ _ _ (fun r1 => Option.bind (F_laws_szWrS (c, r1)) fun r2 => bif (decide (r2 < (0 : Int))) then some (-1 : Int) else some r2) (szByteSS_ok s hs hss 1048576 (by omega) (by omega)) with h | ⟨h0, h⟩
  · exact .inl h
  · rw [e1] at h0 h
    rcases szStep _ _ _ (fun r2 => some r2) (szWrS_ok c hc hcc (1048576 - ((s.length : Int) + sumW lenB s)) h0 (by omega)) with h' | ⟨h0', h'⟩
    · exact .inl (h.trans h')
    · rw [e2] at h0' h'
      exact .inr ⟨_, h.trans h', h0', by omega, by omega, by omega, by omega, by omega⟩
theorem toByteSS_eq (l : List E_s_u8) (hl : l.length ≤ 1048576) (hm : ∀ a ∈ l, F_laws_toByteS a = some a) : F_laws_toByteSS l = some l := by
  unfold F_laws_toByteSS L_laws_toByteSS_3
  rw [if_pos (by omega), if_pos (Int.le_refl _), if_pos (by omega)]
  refine copy_loop z_s_u8 (fun x => some x) l (by omega) ?_ ?_ _ (by simp)
  · intro again i o h0 h1 h2
    unfold S_laws_toByteSS_3
    have hw : Go.IntKind.wrap .i64 (i + 1) = i + 1 := w64 (by omega) (by omega)
    have h3 : i < (o.length : Int) := by omega
    have e : F_laws_toByteS (rd_s_u8 l i) = some (rd_s_u8 l i) := hm _ (getD_mem z_s_u8 l i h0 h1)
    simp only [Bool.cond_eq_ite, decide_eq_true_eq, h0, h1, h3, if_true, hw, e, Option.bind_some]
    rfl
  · intro again i o hi
    unfold S_laws_toByteSS_3
    simp only [Bool.cond_eq_ite, decide_eq_true_eq, if_neg hi]
theorem toWrS_eq (l : List E_LWr) (hl : l.length ≤ 1048576) (hm : ∀ a ∈ l, F_laws_toByteS a.2 = some a.2) : F_laws_toWrS l = some l := by
  unfold F_laws_toWrS L_laws_toWrS_3
  rw [if_pos (by omega), if_pos (Int.le_refl _), if_pos (by omega)]
  refine copy_loop z_LWr (fun x => some x) l (by omega) ?_ ?_ _ (by simp)
  · intro again i o h0 h1 h2
    unfold S_laws_toWrS_3
    have hw : Go.IntKind.wrap .i64 (i + 1) = i + 1 := w64 (by omega) (by omega)
    have h3 : i < (o.length : Int) := by omega
    have e : F_laws_toByteS (rd_LWr l i).2 = some (rd_LWr l i).2 := hm _ (getD_mem z_LWr l i h0 h1)
    simp only [Bool.cond_eq_ite, decide_eq_true_eq, h0, h1, h3, if_true, hw, F_laws_toWr, e, Option.bind_some]
    rfl
  · intro again i o hi
    unfold S_laws_toWrS_3
    simp only [Bool.cond_eq_ite, decide_eq_true_eq, if_neg hi]
theorem toDev_eq (s : List E_s_u8) (c : List E_LWr) (z : Int) (b : Bool) (h : smallD s c) : F_laws_toDev (s, c, z, b) = some (s, c, z, b) := by
  obtain ⟨h1, h2, h3, h4⟩ := h
  unfold F_laws_toDev
  simp only [toByteSS_eq s h1 fun a ha => toByteS_eq a (Nat.le_trans (sec_small h3 ha) (by decide)), toWrS_eq c h2 fun a ha => toByteS_eq a.2 (Nat.le_trans (wr_small h4 ha) (by decide)), Option.bind_some]
theorem eqByteSS_refl (l : List E_s_u8) (hl : l.length ≤ 1048576) (hm : ∀ a ∈ l, F_laws_eqByteS (a, a) = some true) : F_laws_eqByteSS (l, l) = some true := by
  unfold F_laws_eqByteSS L_laws_eqByteSS_4
  simp only [bne_self_eq_false, cond_false]
  refine eq_loop (fun _ => some true) l (by omega) ?_ ?_
  · intro again i h0 h1
    unfold S_laws_eqByteSS_4
    have hw : Go.IntKind.wrap .i64 (i + 1) = i + 1 := w64 (by omega) (by omega)
    have e : F_laws_eqByteS (rd_s_u8 l i, rd_s_u8 l i) = some true := hm _ (getD_mem z_s_u8 l i h0 h1)
    simp only [Bool.cond_eq_ite, decide_eq_true_eq, h0, h1, if_true, hw, e, Option.bind_some, bne_self_eq_false, beq_self_eq_true, Bool.not_true, Bool.false_eq_true, if_false]
  · intro again i hi
    unfold S_laws_eqByteSS_4
    simp only [Bool.cond_eq_ite, decide_eq_true_eq, if_neg hi]
theorem eqWrS_refl (l : List E_Wr) (hl : l.length ≤ 1048576) (hm : ∀ a ∈ l, F_laws_eqByteS (a.2, a.2) = some true) : F_laws_eqWrS (l, l) = some true := by
  unfold F_laws_eqWrS L_laws_eqWrS_4
  simp only [bne_self_eq_false, cond_false]
  refine eq_loop (fun _ => some true) l (by omega) ?_ ?_
  · intro again i h0 h1
    unfold S_laws_eqWrS_4
    have hw : Go.IntKind.wrap .i64 (i + 1) = i + 1 := w64 (by omega) (by omega)
    have e : F_laws_eqByteS ((rd_Wr l i).2, (rd_Wr l i).2) = some true := hm _ (getD_mem z_Wr l i h0 h1)
    simp only [Bool.cond_eq_ite, decide_eq_true_eq, h0, h1, if_true, hw, F_laws_eqWr, e, Option.bind_some, bne_self_eq_false, beq_self_eq_true, Bool.not_true, Bool.false_eq_true, if_false]
  · intro again i hi
    unfold S_laws_eqWrS_4
    simp only [Bool.cond_eq_ite, decide_eq_true_eq, if_neg hi]
theorem eqDev_refl (s : List E_s_u8) (c : List E_LWr) (z : Int) (b : Bool) (h : smallD s c) : F_laws_eqDev (s, c, z, b, s, c, z, b) = some true := by
  obtain ⟨h1, h2, h3, h4⟩ := h
  unfold F_laws_eqDev
  simp only [eqByteSS_refl s h1 fun a ha => eqByteS_refl a (Nat.le_trans (sec_small h3 ha) (by decide)), eqWrS_refl c h2 fun a ha => eqByteS_refl a.2 (Nat.le_trans (wr_small h4 ha) (by decide)), Option.bind_some, Bool.not_true, cond_false, bne_self_eq_false, beq_self_eq_true]
def bigB (_ : Int) (a : E_s_u8) : Bool := decide ((List.length a : Int) > 80)
def badW (n : Int) (_ : Int) (w : E_Wr) : Bool := !inR w.1 0 (n - 1) || decide ((List.length w.2 : Int) > 80)
def devK (s : List E_s_u8) (c : List E_Wr) (z : Int) : Bool := !anyE bigB s 0 && (!anyE (badW s.length) c 0 && ((inR s.length 1 60 && decide ((c.length : Int) ≤ 60)) && inR z (-1) 1000))
theorem spec_DevOk_eq (s : List E_s_u8) (c : List E_Wr) (z : Int) (b : Bool) (hs : s.length ≤ 1048576) (hc : c.length ≤ 1048576) : F_spec_DevOk (s, c, z, b) = some (devK s c z) := by
  have hw1 : Go.IntKind.wrap .i64 ((s.length : Int) - 1) = (s.length : Int) - 1 := w64 (by omega) (by omega)
  unfold F_spec_DevOk L_spec_DevOk_2
  refine (any_loop0 (step := S_spec_DevOk_2 _ _) (fun i => (i, s, c, z, b)) bigB (some false) (some (!anyE (badW s.length) c 0 && ((inR s.length 1 60 && decide ((c.length : Int) ≤ 60)) && inR z (-1) 1000))) z_s_u8 s (by omega) ?_ ?_).trans ?_
  · intro again i h0 h1
    unfold S_spec_DevOk_2 bigB
    have hw : Go.IntKind.wrap .i64 (i + 1) = i + 1 := w64 (by omega) (by omega)
    simp only [Bool.cond_eq_ite, decide_eq_true_eq, h0, h1, if_true, hw]
    rfl
  · intro again i hi
    unfold S_spec_DevOk_2
    simp only [Bool.cond_eq_ite, decide_eq_true_eq, if_neg hi]
    unfold L_spec_DevOk_7
    refine (any_loop0 (step := S_spec_DevOk_7 _ _) (fun i => (i, s, c, z, b)) (badW s.length) (some false) (some ((inR s.length 1 60 && decide ((c.length : Int) ≤ 60)) && inR z (-1) 1000)) z_Wr c (by omega) ?_ ?_).trans ?_
    · intro again i h0 h1
      unfold S_spec_DevOk_7 badW
      have hw : Go.IntKind.wrap .i64 (i + 1) = i + 1 := w64 (by omega) (by omega)
      simp only [Bool.cond_eq_ite, decide_eq_true_eq, h0, h1, if_true, hw, hw1, l1In_eq, Option.bind_some]
      show Option.bind (if (!inR (c.getD i.toNat z_Wr).1 0 ((s.length : Int) - 1)) = true then some true else some (decide ((List.length (c.getD i.toNat z_Wr).2 : Int) > 80))) _ = _
      cases inR (c.getD i.toNat z_Wr).1 0 ((s.length : Int) - 1) <;> rfl
    · intro again i hi
      unfold S_spec_DevOk_7
      simp only [Bool.cond_eq_ite, decide_eq_true_eq, if_neg hi, l1In_eq, Option.bind_some]
      cases inR s.length 1 60
      · rfl
      · by_cases h6 : (c.length : Int) ≤ 60
        · simp [h6]
        · simp [h6]
    · cases anyE (badW s.length) c 0 <;> rfl
  · unfold devK
    cases anyE bigB s 0 <;> rfl
theorem impl_DevOk_eq (s : List E_s_u8) (c : List E_Wr) (z : Int) (b : Bool) (hs : s.length ≤ 1048576) (hc : c.length ≤ 1048576) : F_impl_DevOk (s, c, z, b) = some (devK s c z) := by
  have hw1 : Go.IntKind.wrap .i64 ((s.length : Int) - 1) = (s.length : Int) - 1 := w64 (by omega) (by omega)
  have hL : L_impl_DevOk_4 (fun x5 => some x5.1) (fun x6 => L_impl_DevOk_10 (fun x9 => some x9) (fun x10 => some true) (x6.2.1, ((List.length x6.2.1 : Nat) : Int), (0 : Int), x6.1, x6.2.1, x6.2.2.1, x6.2.2.2)) (s, ((List.length s : Nat) : Int), (0 : Int), s, c, z, b) = some (!anyE bigB s 0 && !anyE (badW s.length) c 0) := by
    unfold L_impl_DevOk_4
    refine (any_loop0 (step := S_impl_DevOk_4 _ _) (fun i => (s, (s.length : Int), i, s, c, z, b)) bigB (some false) (some (!anyE (badW s.length) c 0)) z_s_u8 s (by omega) ?_ ?_).trans ?_
    · intro again i h0 h1
      unfold S_impl_DevOk_4 bigB
      have hw : Go.IntKind.wrap .i64 (i + 1) = i + 1 := w64 (by omega) (by omega)
      simp only [Bool.cond_eq_ite, decide_eq_true_eq, h0, h1, if_true, hw]
      rfl
    · intro again i hi
      unfold S_impl_DevOk_4
      simp only [Bool.cond_eq_ite, decide_eq_true_eq, if_neg hi]
      unfold L_impl_DevOk_10
      refine (any_loop0 (step := S_impl_DevOk_10 _ _) (fun i => (c, (c.length : Int), i, s, c, z, b)) (badW s.length) (some false) (some true) z_Wr c (by omega) ?_ ?_).trans ?_
      · intro again i h0 h1
        unfold S_impl_DevOk_10 badW
        have hw : Go.IntKind.wrap .i64 (i + 1) = i + 1 := w64 (by omega) (by omega)
        simp only [Bool.cond_eq_ite, decide_eq_true_eq, h0, h1, if_true, hw, hw1, within_eq, Option.bind_some]
        show Option.bind (if (!inR (c.getD i.toNat z_Wr).1 0 ((s.length : Int) - 1)) = true then some true else some (decide ((List.length (c.getD i.toNat z_Wr).2 : Int) > 80))) _ = _
        cases inR (c.getD i.toNat z_Wr).1 0 ((s.length : Int) - 1) <;> rfl
      · intro again i hi
        unfold S_impl_DevOk_10
        simp only [Bool.cond_eq_ite, decide_eq_true_eq, if_neg hi]
      · cases anyE (badW s.length) c 0 <;> rfl
    · cases anyE bigB s 0 <;> rfl
  unfold F_impl_DevOk
  simp only [hL, within_eq, Option.bind_some]
  unfold devK
  cases inR s.length 1 60
  · cases anyE bigB s 0 <;> cases anyE (badW s.length) c 0 <;> rfl
  · by_cases h6 : (c.length : Int) ≤ 60
    · have h7 : ¬ (c.length : Int) > 60 := by omega
      simp only [h6, h7, decide_true, decide_false, Bool.not_true, cond_false, cond_true, Option.bind_some]
      cases inR z (-1) 1000
      · cases anyE bigB s 0 <;> cases anyE (badW s.length) c 0 <;> rfl
      · cases anyE bigB s 0 <;> cases anyE (badW s.length) c 0 <;> rfl
    · have h7 : (c.length : Int) > 60 := by omega
      simp only [h6, h7, decide_true, decide_false, Bool.not_true, cond_false, cond_true, Option.bind_some]
      cases anyE bigB s 0 <;> cases anyE (badW s.length) c 0 <;> rfl
end Go.Proofs.Ytnjjkaanajifiaa.Pl

/- What is drawn: operations, entries. No condition. -/
namespace Go.Proofs.Ytnjjkaanajifiaa.Pl
open Go.Proofs.Ytnjjkaanajifiaa.R Go.Proofs.Ytnjjkaanajifiaa.XV
set_option linter.unusedVariables false
set_option linter.unusedSimpArgs false

/-- A step that gives an operation. -/
def givesO (o : Option (Int × ByteArray × ByteArray × Int × Int × List Int × Int × Int)) (c : List Int) : Prop := ∃ k n t a b p s, o = some (k, n, t, a, b, c, p, s) ∧ curOk c p ∧ ByteArray.size n ≤ 60 ∧ ByteArray.size t ≤ 60
theorem leaf0 {c : List Int} {p s k a b : Int} {n t : ByteArray} (h : curOk c p) (hn : n.size ≤ 60) (ht : t.size ≤ 60) : givesO (some (k, n, t, a, b, c, p, s)) c := ⟨_, _, _, _, _, _, _, rfl, h, hn, ht⟩
theorem size0 : (⟨#[]⟩ : ByteArray).size ≤ 60 := by decide
theorem cond_split {A : Type} {P : A → Prop} (b : Bool) {x y : A} (hx : P x) (hy : P y) : P (bif b then x else y) := by cases b <;> assumption
end Go.Proofs.Ytnjjkaanajifiaa.Pl

/- An entry out of bytes, both sides. No condition. -/
namespace Go.Proofs.Ytnjjkaanajifiaa.Pl
open Go.Proofs.Ytnjjkaanajifiaa.R Go.Proofs.Ytnjjkaanajifiaa.XV
set_option linter.unusedVariables false
set_option linter.unusedSimpArgs false

/-! ### An operation out of bytes -/
def oT1 (l : List Int) (i : Int) := getT l (i + 1)
def oT2 (l : List Int) (i : Int) := getT l (oT1 l i).2.1
def oW1 (l : List Int) (i : Int) := getW l (oT2 l i).2.1
def oW2 (l : List Int) (i : Int) := getW l (oW1 l i).2.1
def opv (l : List Int) (i : Int) : Int × ByteArray × ByteArray × Int × Int × Int := (by_ l i, (oT1 l i).1, (oT2 l i).1, (oW1 l i).1, (oW2 l i).1, (oW2 l i).2.1)
def opv0 : Int × ByteArray × ByteArray × Int × Int × Int := (0, noB, noB, 0, 0, 0)
def opk (l : List Int) (i : Int) : Bool :=
  decide (i < l.length) && (oT1 l i).2.2 && (oT2 l i).2.2 && (oW1 l i).2.2 && (oW2 l i).2.2 && opOk (by_ l i) (oT1 l i).1 (oT2 l i).1 (oW1 l i).1 (oW2 l i).1
theorem getW_next (l : List Int) (i : Int) : 0 ≤ (getW l i).2.1 ∧ (getW l i).2.1 ≤ l.length := by
  unfold getW
  split
  · rename_i h
    exact ⟨by simp only; omega, h.2⟩
  · simp only
    omega
theorem size60 {s : ByteArray} (h : s.size ≤ 60) : s.size ≤ maxLen := by
  simp only [maxLen]
  omega
theorem spec_GetOp_eq (l : List Int) (i : Int) (hb : isBytes l) (hl : l.length ≤ 1099511627776) (h0 : 0 ≤ i) (h1 : i ≤ 2199023255552) : F_spec_GetOp (l, i) = some (if opk l i then ((opv l i).1, (opv l i).2.1, (opv l i).2.2.1, (opv l i).2.2.2.1, (opv l i).2.2.2.2.1, (opv l i).2.2.2.2.2, true) else (0, noB, noB, 0, 0, 0, false)) := by
  have n1 := getT_next l (i + 1) hb
  have n2 := getT_next l (oT1 l i).2.1 hb
  have n3 := getW_next l (oT2 l i).2.1
  have e1 : F_spec_GetText (l, i + 1) = some (oT1 l i) := spec_GetText_eq l (i + 1) hb hl (by omega) (by omega)
  have e2 : F_spec_GetText (l, (oT1 l i).2.1) = some (oT2 l i) := spec_GetText_eq l _ hb hl (by unfold oT1; omega) (by unfold oT1; omega)
  have e3 : F_spec_GetW (l, (oT2 l i).2.1) = some (oW1 l i) := spec_GetW_eq l _ hb hl (by unfold oT2; omega) (by unfold oT2; omega)
  have e4 : F_spec_GetW (l, (oW1 l i).2.1) = some (oW2 l i) := spec_GetW_eq l _ hb hl (by unfold oW1; omega) (by unfold oW1; omega)
  have s1 : (oT1 l i).1.size ≤ maxLen := size60 (getT_size l (i + 1) hb)
  have s2 : (oT2 l i).1.size ≤ maxLen := size60 (getT_size l _ hb)
  unfold F_spec_GetOp opk opv
  simp only [l1In_eq, Option.bind_some, Bool.cond_eq_ite, rd_by, w64_by hb]
  rw [w64 (n := (l.length : Int) - 1) (by omega) (by omega), w64 (n := i + 1) (by omega) (by omega)]
  by_cases hi : i < l.length
  · have hin : inR i 0 ((l.length : Int) - 1) = true := inR_iff.2 ⟨h0, by omega⟩
    rw [hin, if_neg (by simp), if_pos h0, if_pos hi, e1, Option.bind_some, e2, Option.bind_some, e3, Option.bind_some, e4]
    simp only [Option.bind_some, spec_OpOk_eq _ _ _ _ _ s1 s2, hi, decide_true, Bool.true_and]
    generalize opOk (by_ l i) (oT1 l i).1 (oT2 l i).1 (oW1 l i).1 (oW2 l i).1 = b0
    cases (oT1 l i).2.2 <;> cases (oT2 l i).2.2 <;> cases (oW1 l i).2.2 <;> cases (oW2 l i).2.2 <;> cases b0 <;> rfl
  · have hin : inR i 0 ((l.length : Int) - 1) = false := by
      cases hc : inR i 0 ((l.length : Int) - 1) with
      | false => rfl
      | true => exact absurd (inR_iff.1 hc).2 (by omega)
    rw [hin, if_pos (by simp)]
    simp only [hi, decide_false, Bool.false_and]
    rfl
theorem bad_tail (l : List Int) (a : Int) (hb : isBytes l) (hl : l.length ≤ 1099511627776) (h0 : 0 ≤ a) (h1 : a ≤ 2199023255552) :
    F_impl_reader_text (l, a, true) = some (noB, l, a, true) ∧ F_impl_reader_word (l, a, true) = some (0, l, a, true) := by
  constructor
  · rw [text_eq l a true hb hl h0 h1]
    simp
  · rw [word_eq l a true hb hl h0 h1]
    simp
def opBad (l : List Int) (a : Int) : Int × ByteArray × ByteArray × Int × Int × List Int × Int × Bool := (0, noB, noB, 0, 0, l, a, true)
theorem impl_op_bad (l : List Int) (i : Int) (hb : isBytes l) (hl : l.length ≤ 1099511627776) (h0 : 0 ≤ i) (h1 : i ≤ 2199023255552) : F_impl_reader_op (l, i, true) = some (opBad l i) := by
  obtain ⟨t, w⟩ := bad_tail l i hb hl h0 h1
  unfold F_impl_reader_op opBad
  rw [one_eq l i true hb hl h0 h1]
  simp only [Option.bind_some, Bool.cond_eq_ite, t, w, if_true, if_false, false_and, Bool.true_eq_false]
  rfl
theorem impl_op_eq (l : List Int) (i : Int) (hb : isBytes l) (hl : l.length ≤ 1099511627776) (h0 : 0 ≤ i) (h1 : i ≤ 1099511627776) :
    if opk l i then F_impl_reader_op (l, i, false) = some ((opv l i).1, (opv l i).2.1, (opv l i).2.2.1, (opv l i).2.2.2.1, (opv l i).2.2.2.2.1, l, (opv l i).2.2.2.2.2, false)
    else ∃ a : Int, 0 ≤ a ∧ a ≤ 1099511627777 ∧ F_impl_reader_op (l, i, false) = some (opBad l a) := by
  have n1 := getT_next l (i + 1) hb
  have n2 := getT_next l (oT1 l i).2.1 hb
  have n3 := getW_next l (oT2 l i).2.1
  have n4 := getW_next l (oW1 l i).2.1
  have c1 : 0 ≤ (oT1 l i).2.1 ∧ (oT1 l i).2.1 ≤ l.length := n1
  have c2 : 0 ≤ (oT2 l i).2.1 ∧ (oT2 l i).2.1 ≤ l.length := n2
  have c3 : 0 ≤ (oW1 l i).2.1 ∧ (oW1 l i).2.1 ≤ l.length := n3
  have s1 : (oT1 l i).1.size ≤ maxLen := size60 (getT_size l (i + 1) hb)
  have s2 : (oT2 l i).1.size ≤ maxLen := size60 (getT_size l _ hb)
  have d0 := one_eq l i false hb hl h0 (by omega)
  have d1 : F_impl_reader_text (l, i + 1, false) = some (if false = false ∧ (oT1 l i).2.2 = true then ((oT1 l i).1, l, (oT1 l i).2.1, false) else (noB, l, i + 1, true)) := text_eq l (i + 1) false hb hl (by omega) (by omega)
  have d2 : F_impl_reader_text (l, (oT1 l i).2.1, false) = some (if false = false ∧ (oT2 l i).2.2 = true then ((oT2 l i).1, l, (oT2 l i).2.1, false) else (noB, l, (oT1 l i).2.1, true)) := text_eq l _ false hb hl (by omega) (by omega)
  have wq : ∀ (j : Int), 0 ≤ j → j ≤ 2199023255552 → F_impl_reader_word (l, j, false) = some (if (getW l j).2.2 = true then ((getW l j).1, l, (getW l j).2.1, false) else (0, l, j, true)) := by
    intro j hj0 hj1
    rw [word_eq l j false hb hl hj0 hj1]
    by_cases h : j + 2 ≤ l.length
    · have eW : getW l j = (w2 l j, j + 2, true) := if_pos ⟨hj0, h⟩
      rw [eW]
      simp [h]
    · have eW : getW l j = (0, 0, false) := if_neg (by rintro ⟨_, h2⟩; exact h h2)
      rw [eW]
      simp [h]
  have d3 : F_impl_reader_word (l, (oT2 l i).2.1, false) = some (if (oW1 l i).2.2 = true then ((oW1 l i).1, l, (oW1 l i).2.1, false) else (0, l, (oT2 l i).2.1, true)) := wq _ (by omega) (by omega)
  have d4 : F_impl_reader_word (l, (oW1 l i).2.1, false) = some (if (oW2 l i).2.2 = true then ((oW2 l i).1, l, (oW2 l i).2.1, false) else (0, l, (oW1 l i).2.1, true)) := wq _ (by omega) (by omega)
  unfold opk opv
  by_cases hi : i < l.length
  · simp only [hi, and_self, if_true] at d0
    simp only [true_and] at d1 d2
    cases k1 : (oT1 l i).2.2 with
    | false =>
      obtain ⟨t, w⟩ := bad_tail l (i + 1) hb hl (by omega) (by omega)
      rw [if_neg (by simp)]
      refine ⟨i + 1, by omega, by omega, ?_⟩
      rw [k1] at d1
      unfold F_impl_reader_op
      simp only [d0, d1, t, w, Option.bind_some, Bool.cond_eq_ite, if_true, if_false, Bool.false_eq_true]
      rfl
    | true =>
      rw [k1] at d1
      cases k2 : (oT2 l i).2.2 with
      | false =>
        obtain ⟨t, w⟩ := bad_tail l (oT1 l i).2.1 hb hl (by omega) (by omega)
        rw [if_neg (by simp)]
        refine ⟨(oT1 l i).2.1, by omega, by omega, ?_⟩
        rw [k2] at d2
        unfold F_impl_reader_op
        simp only [d0, d1, d2, t, w, Option.bind_some, Bool.cond_eq_ite, if_true, if_false, Bool.false_eq_true]
        rfl
      | true =>
        rw [k2] at d2
        cases k3 : (oW1 l i).2.2 with
        | false =>
          obtain ⟨t, w⟩ := bad_tail l (oT2 l i).2.1 hb hl (by omega) (by omega)
          rw [if_neg (by simp)]
          refine ⟨(oT2 l i).2.1, by omega, by omega, ?_⟩
          rw [k3] at d3
          unfold F_impl_reader_op
          simp only [d0, d1, d2, d3, t, w, Option.bind_some, Bool.cond_eq_ite, if_true, if_false, Bool.false_eq_true]
          rfl
        | true =>
          rw [k3] at d3
          cases k4 : (oW2 l i).2.2 with
          | false =>
            rw [if_neg (by simp)]
            refine ⟨(oW1 l i).2.1, by omega, by omega, ?_⟩
            rw [k4] at d4
            unfold F_impl_reader_op
            simp only [d0, d1, d2, d3, d4, Option.bind_some, Bool.cond_eq_ite, if_true, if_false, Bool.false_eq_true]
            rfl
          | true =>
            rw [k4] at d4
            have c4 : 0 ≤ (oW2 l i).2.1 ∧ (oW2 l i).2.1 ≤ l.length := n4
            cases k5 : opOk (by_ l i) (oT1 l i).1 (oT2 l i).1 (oW1 l i).1 (oW2 l i).1 with
            | false =>
              rw [if_neg (by simp)]
              refine ⟨(oW2 l i).2.1, by omega, by omega, ?_⟩
              unfold F_impl_reader_op
              simp only [d0, d1, d2, d3, d4, impl_OpOk_eq _ _ _ _ _ s1 s2, k5, Option.bind_some, Bool.cond_eq_ite, if_true, if_false, Bool.false_eq_true]
              rfl
            | true =>
              rw [if_pos (by simp [hi])]
              unfold F_impl_reader_op
              simp only [d0, d1, d2, d3, d4, impl_OpOk_eq _ _ _ _ _ s1 s2, k5, Option.bind_some, Bool.cond_eq_ite, if_true, if_false, Bool.false_eq_true]
              rfl
  · have d0' : F_impl_reader_one (l, i, false) = some (0, l, i, true) := by
      rw [d0, if_neg (by rintro ⟨_, h⟩; exact hi h)]
    obtain ⟨t, w⟩ := bad_tail l i hb hl (by omega) (by omega)
    rw [if_neg (by simp [hi])]
    refine ⟨i, by omega, by omega, ?_⟩
    unfold F_impl_reader_op
    simp only [d0', t, w, Option.bind_some, Bool.cond_eq_ite, if_true, if_false, Bool.false_eq_true]
    rfl
end Go.Proofs.Ytnjjkaanajifiaa.Pl

/- An entry out of bytes: a shorter list. No condition. -/
namespace Go.Proofs.Ytnjjkaanajifiaa.Pl
open Go.Proofs.Ytnjjkaanajifiaa.R Go.Proofs.Ytnjjkaanajifiaa.XV
set_option linter.unusedVariables false
set_option linter.unusedSimpArgs false

/-! ### A shorter list -/
theorem w2_take {l : List Int} {n : Nat} {i : Int} (h0 : 0 ≤ i) (hi : i + 2 ≤ n) : w2 (l.take n) i = w2 l i := by
  unfold w2
  rw [by_take (by omega), by_take (by omega)]
theorem getW_take {l : List Int} {n : Nat} (hn : n ≤ l.length) (i : Int) : ((getW (l.take n) i).2.2 = true → getW l i = getW (l.take n) i ∧ (getW (l.take n) i).2.1 ≤ n) ∧ ((getW l i).2.2 = true → (getW l i).2.1 ≤ n → getW (l.take n) i = getW l i) := by
  have hlen : (l.take n).length = n := by simp; omega
  constructor
  · intro h
    by_cases hc : 0 ≤ i ∧ i + 2 ≤ (l.take n).length
    · have e1 : getW (l.take n) i = (w2 (l.take n) i, i + 2, true) := if_pos hc
      rw [hlen] at hc
      have e2 : getW l i = (w2 l i, i + 2, true) := if_pos ⟨hc.1, by omega⟩
      rw [e1, e2, w2_take hc.1 hc.2]
      exact ⟨rfl, hc.2⟩
    · have e1 : getW (l.take n) i = (0, 0, false) := if_neg hc
      rw [e1] at h
      exact absurd h (by simp)
  · intro h hle
    by_cases hc : 0 ≤ i ∧ i + 2 ≤ l.length
    · have e2 : getW l i = (w2 l i, i + 2, true) := if_pos hc
      rw [e2] at hle
      simp only at hle
      have e1 : getW (l.take n) i = (w2 (l.take n) i, i + 2, true) := if_pos ⟨hc.1, by rw [hlen]; exact hle⟩
      rw [e1, e2, w2_take hc.1 hle]
    · have e2 : getW l i = (0, 0, false) := if_neg hc
      rw [e2] at h
      exact absurd h (by simp)
theorem getT_take {l : List Int} {n : Nat} (hb : isBytes l) (hn : n ≤ l.length) (i : Int) : ((getT (l.take n) i).2.2 = true → getT l i = getT (l.take n) i ∧ (getT (l.take n) i).2.1 ≤ n) ∧ ((getT l i).2.2 = true → (getT l i).2.1 ≤ n → getT (l.take n) i = getT l i) := by
  have hlen : (l.take n).length = n := by simp; omega
  have hr := w2_range hb i
  have same : 0 ≤ i → i + 2 + w2 l i ≤ n → (l.take n).take (i + 2 + w2 l i).toNat = l.take (i + 2 + w2 l i).toNat := by
    intro h0 h
    rw [List.take_take, Nat.min_eq_left (by omega)]
  constructor
  · intro h
    by_cases hc : 0 ≤ i ∧ i + 2 ≤ (l.take n).length ∧ w2 (l.take n) i ≤ 60 ∧ i + 2 + w2 (l.take n) i ≤ (l.take n).length
    · have e1 : getT (l.take n) i = (textOf (((l.take n).take (i + 2 + w2 (l.take n) i).toNat).drop (i + 2).toNat), i + 2 + w2 (l.take n) i, true) := if_pos hc
      rw [hlen] at hc
      have ew : w2 (l.take n) i = w2 l i := w2_take hc.1 hc.2.1
      rw [ew] at hc e1
      have e2 : getT l i = (textOf ((l.take (i + 2 + w2 l i).toNat).drop (i + 2).toNat), i + 2 + w2 l i, true) := if_pos ⟨hc.1, by omega, hc.2.2.1, by omega⟩
      rw [e1, e2, same hc.1 hc.2.2.2]
      exact ⟨rfl, hc.2.2.2⟩
    · have e1 : getT (l.take n) i = (noB, 0, false) := if_neg hc
      rw [e1] at h
      exact absurd h (by simp)
  · intro h hle
    by_cases hc : 0 ≤ i ∧ i + 2 ≤ l.length ∧ w2 l i ≤ 60 ∧ i + 2 + w2 l i ≤ l.length
    · have e2 : getT l i = (textOf ((l.take (i + 2 + w2 l i).toNat).drop (i + 2).toNat), i + 2 + w2 l i, true) := if_pos hc
      rw [e2] at hle
      simp only at hle
      have ew : w2 (l.take n) i = w2 l i := w2_take hc.1 (by omega)
      have e1 : getT (l.take n) i = (textOf (((l.take n).take (i + 2 + w2 (l.take n) i).toNat).drop (i + 2).toNat), i + 2 + w2 (l.take n) i, true) := if_pos ⟨hc.1, by rw [hlen]; omega, by rw [ew]; exact hc.2.2.1, by rw [hlen, ew]; omega⟩
      rw [e1, e2, ew, same hc.1 hle]
    · have e2 : getT l i = (noB, 0, false) := if_neg hc
      rw [e2] at h
      exact absurd h (by simp)
theorem op_next {l : List Int} (hb : isBytes l) {i : Int} (hk : opk l i = true) : (oT1 l i).2.1 ≤ (oT2 l i).2.1 ∧ (oT2 l i).2.1 ≤ (oW1 l i).2.1 ∧ (oW1 l i).2.1 ≤ (oW2 l i).2.1 ∧ i < (oT1 l i).2.1 := by
  have tn : ∀ j, (getT l j).2.2 = true → j + 2 ≤ (getT l j).2.1 := by
    intro j h
    have := w2_range hb j
    by_cases hc : 0 ≤ j ∧ j + 2 ≤ l.length ∧ w2 l j ≤ 60 ∧ j + 2 + w2 l j ≤ l.length
    · have e2 : getT l j = (textOf ((l.take (j + 2 + w2 l j).toNat).drop (j + 2).toNat), j + 2 + w2 l j, true) := if_pos hc
      rw [e2]
      simp only
      omega
    · have e2 : getT l j = (noB, 0, false) := if_neg hc
      rw [e2] at h
      exact absurd h (by simp)
  have wn : ∀ j, (getW l j).2.2 = true → j + 2 ≤ (getW l j).2.1 := by
    intro j h
    by_cases hc : 0 ≤ j ∧ j + 2 ≤ l.length
    · have e2 : getW l j = (w2 l j, j + 2, true) := if_pos hc
      rw [e2]
      exact Int.le_refl _
    · have e2 : getW l j = (0, 0, false) := if_neg hc
      rw [e2] at h
      exact absurd h (by simp)
  unfold opk at hk
  simp only [Bool.and_eq_true, decide_eq_true_eq] at hk
  obtain ⟨⟨⟨⟨⟨_, k1⟩, k2⟩, k3⟩, k4⟩, _⟩ := hk
  have a1 : i + 1 + 2 ≤ (oT1 l i).2.1 := tn _ k1
  have a2 : (oT1 l i).2.1 + 2 ≤ (oT2 l i).2.1 := tn _ k2
  have a3 : (oT2 l i).2.1 + 2 ≤ (oW1 l i).2.1 := wn _ k3
  have a4 : (oW1 l i).2.1 + 2 ≤ (oW2 l i).2.1 := wn _ k4
  omega
theorem op_take {l : List Int} {n : Nat} (hb : isBytes l) (hn : n ≤ l.length) {i : Int} (h0 : 0 ≤ i) :
    (opk (l.take n) i = true ∧ (opv (l.take n) i).2.2.2.2.2 = n ↔ opk l i = true ∧ (opv l i).2.2.2.2.2 = n) ∧ (opk l i = true → (opv l i).2.2.2.2.2 = n → opv (l.take n) i = opv l i) := by
  have hlen : (l.take n).length = n := by simp; omega
  have core : opk l i = true → (opv l i).2.2.2.2.2 ≤ n → opk (l.take n) i = true ∧ opv (l.take n) i = opv l i := by
    intro hk hv
    have hnx := op_next hb hk
    have hk' := hk
    unfold opk at hk
    simp only [Bool.and_eq_true, decide_eq_true_eq] at hk
    obtain ⟨⟨⟨⟨⟨ki, k1⟩, k2⟩, k3⟩, k4⟩, k5⟩ := hk
    have hv' : (oW2 l i).2.1 ≤ n := hv
    have e1 : oT1 (l.take n) i = oT1 l i := (getT_take hb hn (i + 1)).2 k1 (by show (oT1 l i).2.1 ≤ n; omega)
    have e2 : oT2 (l.take n) i = oT2 l i := by
      unfold oT2
      rw [e1]
      exact (getT_take hb hn _).2 k2 (by show (oT2 l i).2.1 ≤ n; omega)
    have e3 : oW1 (l.take n) i = oW1 l i := by
      unfold oW1
      rw [e2]
      exact (getW_take hn _).2 k3 (by show (oW1 l i).2.1 ≤ n; omega)
    have e4 : oW2 (l.take n) i = oW2 l i := by
      unfold oW2
      rw [e3]
      exact (getW_take hn _).2 k4 (by show (oW2 l i).2.1 ≤ n; omega)
    have e0 : by_ (l.take n) i = by_ l i := by_take (by omega)
    unfold opk opv
    rw [e0, e1, e2, e3, e4, hlen]
    refine ⟨?_, rfl⟩
    simp only [Bool.and_eq_true, decide_eq_true_eq]
    exact ⟨⟨⟨⟨⟨by omega, k1⟩, k2⟩, k3⟩, k4⟩, k5⟩
  have back : opk (l.take n) i = true → opk l i = true ∧ opv (l.take n) i = opv l i := by
    intro hk
    unfold opk at hk
    simp only [Bool.and_eq_true, decide_eq_true_eq] at hk
    obtain ⟨⟨⟨⟨⟨ki, k1⟩, k2⟩, k3⟩, k4⟩, k5⟩ := hk
    rw [hlen] at ki
    have e1 : oT1 l i = oT1 (l.take n) i := ((getT_take hb hn (i + 1)).1 k1).1
    have e2 : oT2 l i = oT2 (l.take n) i := by
      unfold oT2
      rw [e1]
      exact ((getT_take hb hn _).1 k2).1
    have e3 : oW1 l i = oW1 (l.take n) i := by
      unfold oW1
      rw [e2]
      exact ((getW_take hn _).1 k3).1
    have e4 : oW2 l i = oW2 (l.take n) i := by
      unfold oW2
      rw [e3]
      exact ((getW_take hn _).1 k4).1
    have e0 : by_ (l.take n) i = by_ l i := by_take (by omega)
    unfold opk opv
    rw [e1, e2, e3, e4, ← e0]
    refine ⟨?_, rfl⟩
    simp only [Bool.and_eq_true, decide_eq_true_eq]
    exact ⟨⟨⟨⟨⟨by omega, k1⟩, k2⟩, k3⟩, k4⟩, k5⟩
  refine ⟨⟨fun h => ?_, fun h => ?_⟩, fun hk hv => (core hk (by omega)).2⟩
  · have := back h.1
    rw [← this.2]
    exact ⟨this.1, h.2⟩
  · have := core h.1 (by omega)
    rw [this.2]
    exact ⟨this.1, h.2⟩
end Go.Proofs.Ytnjjkaanajifiaa.Pl

/- An entry out of bytes: the two answers, and the law. No condition. -/
namespace Go.Proofs.Ytnjjkaanajifiaa.Pl
open Go.Proofs.Ytnjjkaanajifiaa.R Go.Proofs.Ytnjjkaanajifiaa.XV
set_option linter.unusedVariables false
set_option linter.unusedSimpArgs false

def entC (l : List Int) : Prop := 6 ≤ l.length ∧ get4 l ((l.length : Int) - 4) = crc (l.take (l.length - 4)) ∧ (opk l 2 = true ∧ (opv l 2).2.2.2.2.2 = (l.length - 4 : Nat)) ∧ entOk (w2 l 0) (opv l 2).1 (opv l 2).2.1 (opv l 2).2.2.1 (opv l 2).2.2.2.1 (opv l 2).2.2.2.2.1 = true
noncomputable instance (l : List Int) : Decidable (entC l) := Classical.propDecidable _
noncomputable def entR (l : List Int) : Int × Int × ByteArray × ByteArray × Int × Int × Bool :=
  if entC l then (w2 l 0, (opv l 2).1, (opv l 2).2.1, (opv l 2).2.2.1, (opv l 2).2.2.2.1, (opv l 2).2.2.2.2.1, true) else (0, 0, noB, noB, 0, 0, false)
theorem opv_sizes (l : List Int) (i : Int) (hb : isBytes l) : (opv l i).2.1.size ≤ maxLen ∧ (opv l i).2.2.1.size ≤ maxLen :=
  ⟨size60 (getT_size l (i + 1) hb), size60 (getT_size l _ hb)⟩
theorem noB_lit : ({ data := #[] } : ByteArray) = noB := rfl
theorem zeros_lit : ((0 : Int), (0 : Int), ({ data := #[] } : ByteArray), ({ data := #[] } : ByteArray), (0 : Int), (0 : Int), false) = (0, 0, noB, noB, 0, 0, false) := rfl
theorem spec_GetEnt_eq (l : List Int) (hb : isBytes l) (hl : l.length ≤ 1073741824) : F_spec_GetEnt l = some (entR l) := by
  have hl' : l.length ≤ 1099511627776 := by omega
  unfold F_spec_GetEnt
  simp only [Bool.cond_eq_ite, decide_eq_true_eq]
  rw [w64 (n := (l.length : Int) - 4) (by omega) (by omega)]
  by_cases h6 : 6 ≤ l.length
  · have hn : l.length - 4 ≤ l.length := by omega
    have en : ((l.length : Int) - 4).toNat = l.length - 4 := by omega
    have en' : (l.length : Int) - 4 = ((l.length - 4 : Nat) : Int) := by omega
    have hbt := isBytes_take hb (l.length - 4)
    have hlt : (l.take (l.length - 4)).length ≤ 1099511627776 := by simp; omega
    rw [if_neg (by omega)]
    have p1 : (0 : Int) ≤ (l.length : Int) - 4 := by omega
    have p2 : (l.length : Int) - 4 ≤ (l.length : Int) := by omega
    simp only [Int.le_refl, if_true, p1, p2, l17Get_eq l _ hb hl' p1 (by omega), en, Option.bind_some, Int.toNat_zero, List.drop_zero, spec_Crc_eq _ hbt hlt]
    by_cases hc : get4 l ((l.length : Int) - 4) = crc (l.take (l.length - 4))
    · rw [if_neg (by rw [hc]; simp), spec_GetW_eq l 0 hb hl' (by omega) (by omega)]
      have eW : getW l 0 = (w2 l 0, 2, true) := if_pos ⟨Int.le_refl _, by omega⟩
      rw [eW]
      simp only [Option.bind_some]
      rw [spec_GetOp_eq _ 2 hbt hlt (by omega) (by omega)]
      obtain ⟨tk, te⟩ := op_take (i := 2) hb hn (by omega)
      obtain ⟨s1, s2⟩ := opv_sizes (l.take (l.length - 4)) 2 hbt
      by_cases hk : opk (l.take (l.length - 4)) 2 = true
      · rw [if_pos hk]
        simp only [Option.bind_some]
        by_cases he : (opv (l.take (l.length - 4)) 2).2.2.2.2.2 = ((l.length - 4 : Nat) : Int)
        · have hk' := tk.1 ⟨hk, he⟩
          have ee := te hk'.1 hk'.2
          rw [ee] at s1 s2
          rw [ee, spec_EntOk_eq _ _ _ _ _ _ s1 s2]
          simp only [Option.bind_some]
          cases hE : entOk (w2 l 0) (opv l 2).1 (opv l 2).2.1 (opv l 2).2.2.1 (opv l 2).2.2.2.1 (opv l 2).2.2.2.2.1 with
          | true =>
            have hC : entC l := ⟨h6, hc, hk', hE⟩
            have hne : ((opv l 2).2.2.2.2.2 != (l.length : Int) - 4) = false := by
              rw [hk'.2, ← en']
              simp
            rw [hne]
            unfold entR
            rw [if_pos hC]
            simp
          | false =>
            have hC : ¬ entC l := fun h => by rw [h.2.2.2] at hE; exact absurd hE (by simp)
            unfold entR
            rw [if_neg hC, zeros_lit]
            simp
        · have hC : ¬ entC l := fun h => he (tk.2 h.2.2.1).2
          have hne : ((opv (l.take (l.length - 4)) 2).2.2.2.2.2 != (l.length : Int) - 4) = true := by
            rw [en']
            simpa using he
          rw [hne]
          unfold entR
          rw [if_neg hC, zeros_lit]
          simp
      · have hC : ¬ entC l := fun h => hk (tk.2 h.2.2.1).1
        rw [if_neg hk]
        unfold entR
        rw [if_neg hC, zeros_lit]
        simp
    · have hC : ¬ entC l := fun h => hc h.2.1
      unfold entR
      rw [if_pos (by simpa using hc), if_neg hC]
      rfl
  · have hC : ¬ entC l := fun h => h6 h.1
    unfold entR
    rw [if_pos (by omega), if_neg hC]
    rfl
theorem impl_GetEnt_eq (l : List Int) (hb : isBytes l) (hl : l.length ≤ 1073741824) : F_impl_GetEnt l = some (entR l) := by
  have hl' : l.length ≤ 1099511627776 := by omega
  have bad : ∀ (q : Int) (o : Int × ByteArray × ByteArray × Int × Int) (a : Int), 0 ≤ a → a ≤ 1099511627777 → ¬ entC l → F_impl_reader_word (l, 0, false) = some (q, l, o.1, o.2.2.2.2 == 0) → F_impl_reader_op (l, o.1, o.2.2.2.2 == 0) = some (opBad l a) → F_impl_GetEnt l = some (entR l) := by
    intro q o a ha0 ha1 hC h1 h2
    obtain ⟨v, a', h4⟩ := four_bad l a true hb hl' ha0 ha1 (by simp)
    unfold F_impl_GetEnt entR
    rw [h1, if_neg hC]
    simp only [Option.bind_some]
    rw [h2]
    unfold opBad
    simp only [Option.bind_some]
    rw [h4]
    simp only [Option.bind_some, done_eq]
    rfl
  by_cases h2 : 2 ≤ l.length
  · have d0 : F_impl_reader_word (l, 0, false) = some (w2 l 0, l, 2, false) := by
      rw [word_eq l 0 false hb hl' (by omega) (by omega), if_pos ⟨rfl, by omega⟩]
      rfl
    have d1 := impl_op_eq l 2 hb hl' (by omega) (by omega)
    obtain ⟨s1, s2⟩ := opv_sizes l 2 hb
    by_cases hk : opk l 2 = true
    · rw [if_pos hk] at d1
      have hnx := op_next hb hk
      have hlast : 0 ≤ (oW2 l 2).2.1 ∧ (oW2 l 2).2.1 ≤ l.length := getW_next l _
      have hv : (opv l 2).2.2.2.2.2 = (oW2 l 2).2.1 := rfl
      by_cases he : (opv l 2).2.2.2.2.2 + 4 ≤ l.length
      · have d4 := four_eq l (opv l 2).2.2.2.2.2 hb hl' (by omega) he
        unfold F_impl_GetEnt
        rw [d0]
        simp only [Option.bind_some]
        rw [d1]
        simp only [Option.bind_some]
        rw [d4]
        simp only [Option.bind_some, done_eq, impl_EntOk_eq _ _ _ _ _ _ s1 s2, Bool.cond_eq_ite]
        by_cases hend : (opv l 2).2.2.2.2.2 + 4 = (l.length : Int)
        · have en : (opv l 2).2.2.2.2.2.toNat = l.length - 4 := by omega
          have en' : (opv l 2).2.2.2.2.2 = ((l.length - 4 : Nat) : Int) := by omega
          have en2 : (opv l 2).2.2.2.2.2 = (l.length : Int) - 4 := by omega
          have hbt := isBytes_take hb (l.length - 4)
          have hlt : (l.take (l.length - 4)).length ≤ 1099511627776 := by simp; omega
          have p1 : (0 : Int) ≤ (opv l 2).2.2.2.2.2 := by omega
          have p2 : (opv l 2).2.2.2.2.2 ≤ (l.length : Int) := by omega
          simp only [Int.le_refl, p1, p2, if_true, en, Int.toNat_zero, List.drop_zero, impl_Crc_eq _ hbt hlt, hend, Option.bind_some]
          rw [en2]
          cases hE : entOk (w2 l 0) (opv l 2).1 (opv l 2).2.1 (opv l 2).2.2.1 (opv l 2).2.2.2.1 (opv l 2).2.2.2.2.1 with
          | true =>
            by_cases hc : get4 l ((l.length : Int) - 4) = crc (l.take (l.length - 4))
            · have hC : entC l := ⟨by omega, hc, ⟨hk, en'⟩, hE⟩
              unfold entR
              rw [if_pos hC, hc]
              simp
            · have hC : ¬ entC l := fun h => hc h.2.1
              unfold entR
              have hcb : (get4 l ((l.length : Int) - 4) != crc (l.take (l.length - 4))) = true := by simpa using hc
              rw [if_neg hC, hcb, zeros_lit]
              simp
          | false =>
            have hC : ¬ entC l := fun h => by rw [h.2.2.2] at hE; exact absurd hE (by simp)
            unfold entR
            rw [if_neg hC, zeros_lit]
            simp
        · have hC : ¬ entC l := fun h => hend (by have := h.2.2.1.2; have := h.1; omega)
          have hb0 : ((opv l 2).2.2.2.2.2 + 4 == (l.length : Int)) = false := by simpa using hend
          unfold entR
          rw [if_neg hC, hb0, zeros_lit]
          simp
      · have hC : ¬ entC l := fun h => he (by have := h.2.2.1.2; have := h.1; omega)
        obtain ⟨v, a', h4⟩ := four_bad l (opv l 2).2.2.2.2.2 false hb hl' (by omega) (by omega) (fun _ => by omega)
        unfold F_impl_GetEnt entR
        rw [d0, if_neg hC]
        simp only [Option.bind_some]
        rw [d1]
        simp only [Option.bind_some]
        rw [h4]
        simp only [Option.bind_some, done_eq]
        rfl
    · rw [if_neg hk] at d1
      obtain ⟨a, ha0, ha1, d1⟩ := d1
      exact bad (w2 l 0) (2, noB, noB, 0, 1) a ha0 ha1 (fun h => hk h.2.2.1.1) d0 d1
  · have d0 : F_impl_reader_word (l, 0, false) = some (0, l, 0, true) := by
      rw [word_eq l 0 false hb hl' (by omega) (by omega), if_neg (by rintro ⟨_, h⟩; omega)]
    exact bad 0 (0, noB, noB, 0, 0) 0 (by omega) (by omega) (fun h => by have := h.1; omega) d0 (impl_op_bad l 0 hb hl' (by omega) (by omega))

/-! ### The law -/
theorem eqOp_refl (k : Int) (n t : ByteArray) (a b : Int) : F_laws_eqOp (k, n, t, a, b, k, n, t, a, b) = some true := by
  unfold F_laws_eqOp
  simp
theorem eqEnt_refl (q k : Int) (n t : ByteArray) (a b : Int) : F_laws_eqEnt (q, k, n, t, a, b, q, k, n, t, a, b) = some true := by
  unfold F_laws_eqEnt
  simp [eqOp_refl]
end Go.Proofs.Ytnjjkaanajifiaa.Pl

/- An entry as bytes: both sides; there and back. No condition. -/
namespace Go.Proofs.Ytnjjkaanajifiaa.Pl
open Go.Proofs.Ytnjjkaanajifiaa.R Go.Proofs.Ytnjjkaanajifiaa.XV
set_option linter.unusedVariables false
set_option linter.unusedSimpArgs false

/-! ### Texts as bytes -/
theorem bytesL_len (s : ByteArray) : (bytesL s).length = s.size := by
  unfold bytesL
  rw [List.length_map, Array.length_toList]
  rfl
theorem bytesL_bytes (s : ByteArray) : isBytes (bytesL s) := by
  intro x hx
  unfold bytesL at hx
  obtain ⟨b, _, rfl⟩ := List.mem_map.1 hx
  have := b.toNat_lt
  omega
theorem textOf_bytesL (s : ByteArray) : textOf (bytesL s) = s := by
  unfold textOf bytesL
  rw [List.map_map]
  have : (List.map ((fun n : Int => UInt8.ofNat n.toNat) ∘ fun b : UInt8 => (b.toNat : Int)) s.data.toList) = s.data.toList := by
    conv => rhs; rw [← List.map_id s.data.toList]
    refine List.map_congr_left fun b _ => ?_
    simp
  rw [this]
theorem bytesL_textOf (l : List Int) (hb : isBytes l) : bytesL (textOf l) = l := by
  unfold textOf bytesL
  simp only [List.map_map]
  conv => rhs; rw [← List.map_id l]
  refine List.map_congr_left fun x hx => ?_
  have := hb x hx
  simp only [Function.comp, id]
  rw [UInt8.toNat_ofNat']
  omega
theorem two_bytes (x : Int) : isBytes (two x) := by
  intro y hy
  simp only [two, List.mem_cons, List.mem_nil_iff, or_false] at hy
  rcases hy with h | h <;> subst h <;> omega
def tx (s : ByteArray) : List Int := two (s.size : Int) ++ bytesL s
theorem tx_len (s : ByteArray) : (tx s).length = 2 + s.size := by
  unfold tx
  rw [List.length_append, bytesL_len]
  rfl
theorem tx_bytes (s : ByteArray) : isBytes (tx s) := isBytes_append (two_bytes _) (bytesL_bytes s)
def body (q k : Int) (n t : ByteArray) (a b : Int) : List Int := two q ++ ([k % 256] ++ (tx n ++ (tx t ++ (two a ++ two b))))
def encE (q k : Int) (n t : ByteArray) (a b : Int) : List Int := body q k n t a b ++ four (crc (body q k n t a b))
theorem body_bytes (q k : Int) (n t : ByteArray) (a b : Int) : isBytes (body q k n t a b) := by
  refine isBytes_append (two_bytes _) (isBytes_append ?_ (isBytes_append (tx_bytes _) (isBytes_append (tx_bytes _) (isBytes_append (two_bytes _) (two_bytes _)))))
  intro y hy
  simp only [List.mem_cons, List.mem_nil_iff, or_false] at hy
  subst hy
  omega
theorem body_len (q k : Int) (n t : ByteArray) (a b : Int) : (body q k n t a b).length = 11 + n.size + t.size := by
  unfold body
  simp only [List.length_append, tx_len, two, List.length_cons, List.length_nil]
  omega
theorem encE_bytes (q k : Int) (n t : ByteArray) (a b : Int) : isBytes (encE q k n t a b) := isBytes_append (body_bytes _ _ _ _ _ _) (four_bytes _)
theorem encE_len (q k : Int) (n t : ByteArray) (a b : Int) : (encE q k n t a b).length = 15 + n.size + t.size := by
  unfold encE
  rw [List.length_append, body_len]
  simp only [four, List.length_cons, List.length_nil]
  omega
theorem by_app (l m : List Int) (i : Int) (h : (l.length : Int) ≤ i) : by_ (l ++ m) i = by_ m (i - l.length) := by
  unfold by_
  rw [List.getD_eq_getElem?_getD, List.getD_eq_getElem?_getD, List.getElem?_append_right (by omega)]
  congr 2
  omega
theorem w2_app (l m : List Int) (i : Int) (h : (l.length : Int) ≤ i) : w2 (l ++ m) i = w2 m (i - l.length) := by
  unfold w2
  rw [by_app l m i h, by_app l m (i + 1) (by omega), show i + 1 - (l.length : Int) = i - l.length + 1 by omega]
theorem w2_two (x : Int) (m : List Int) (h0 : 0 ≤ x) (h1 : x < 65536) : w2 (two x ++ m) 0 = x := by
  show x / 256 % 256 * 256 + x % 256 = x
  omega
theorem getW_app (l m : List Int) (x : Int) (h0 : 0 ≤ x) (h1 : x < 65536) : getW (l ++ (two x ++ m)) (l.length : Int) = (x, (l.length : Int) + 2, true) := by
  have hl : (l ++ (two x ++ m)).length = l.length + (2 + m.length) := by
    simp only [List.length_append, two, List.length_cons, List.length_nil]
  unfold getW
  rw [if_pos ⟨by omega, by omega⟩, w2_app l _ _ (Int.le_refl _), Int.sub_self, w2_two x m h0 h1]
theorem getT_app (l m : List Int) (s : ByteArray) (hs : s.size ≤ 60) : getT (l ++ (tx s ++ m)) (l.length : Int) = (s, (l.length : Int) + 2 + s.size, true) := by
  have hl : (l ++ (tx s ++ m)).length = l.length + (2 + s.size + m.length) := by
    simp only [List.length_append, tx_len]
  have hw : w2 (l ++ (tx s ++ m)) (l.length : Int) = (s.size : Int) := by
    rw [w2_app l _ _ (Int.le_refl _), Int.sub_self]
    unfold tx
    rw [List.append_assoc]
    exact w2_two _ _ (by omega) (by omega)
  unfold getT
  rw [hw, if_pos ⟨by omega, by omega, by omega, by omega⟩]
  have e1 : ((l.length : Int) + 2 + (s.size : Int)).toNat = l.length + (2 + s.size) := by omega
  have e2 : ((l.length : Int) + 2).toNat = l.length + 2 := by omega
  have hcut : (List.take (l.length + (2 + s.size)) (l ++ (tx s ++ m))).drop (l.length + 2) = bytesL s := by
    rw [List.take_append, List.take_of_length_le (by omega), show l.length + (2 + s.size) - l.length = (tx s).length by rw [tx_len]; omega, List.take_left, List.drop_append, List.drop_of_length_le (by omega), List.nil_append, show l.length + 2 - l.length = (two (s.size : Int)).length by simp only [two, List.length_cons, List.length_nil]; omega]
    unfold tx
    exact List.drop_left
  rw [e1, e2, hcut, textOf_bytesL]
theorem dec_encE (q k : Int) (n t : ByteArray) (a b : Int) (hn : n.size ≤ 60) (ht : t.size ≤ 60) (h : entOk q k n t a b = true) : entC (encE q k n t a b) ∧ entR (encE q k n t a b) = (q, k, n, t, a, b, true) := by
  have h' := h
  unfold entOk opOk at h'
  simp only [Bool.and_eq_true, inR_iff, isW] at h'
  obtain ⟨⟨q0, q1⟩, ⟨⟨⟨⟨⟨⟨k0, k1⟩, _⟩, _⟩, ⟨a0, a1⟩⟩, ⟨b0, b1⟩⟩, _⟩⟩ := h'
  generalize hF : four (crc (body q k n t a b)) = F
  have hFl : F.length = 4 := by rw [← hF]; rfl
  have e0 : encE q k n t a b = two q ++ ([k % 256] ++ (tx n ++ (tx t ++ (two a ++ (two b ++ F))))) := by
    unfold encE
    rw [hF]
    unfold body
    simp only [List.append_assoc]
  have hlen := encE_len q k n t a b
  have w0 : w2 (encE q k n t a b) 0 = q := by rw [e0]; exact w2_two q _ (by omega) (by omega)
  have yk : by_ (encE q k n t a b) 2 = k := by
    rw [e0]
    show k % 256 = k
    omega
  have t1 : oT1 (encE q k n t a b) 2 = (n, (3 : Int) + 2 + (n.size : Int), true) := by
    have := getT_app (two q ++ [k % 256]) (tx t ++ (two a ++ (two b ++ F))) n hn
    rw [List.append_assoc, ← e0] at this
    exact this
  have t2 : oT2 (encE q k n t a b) 2 = (t, (3 : Int) + 2 + (n.size : Int) + 2 + (t.size : Int), true) := by
    unfold oT2
    rw [t1]
    have := getT_app (two q ++ ([k % 256] ++ tx n)) (two a ++ (two b ++ F)) t ht
    simp only [List.append_assoc] at this
    rw [← e0] at this
    have hl : (((two q ++ ([k % 256] ++ tx n)).length : Nat) : Int) = 3 + 2 + (n.size : Int) := by
      simp only [List.length_append, tx_len, two, List.length_cons, List.length_nil]
      omega
    rw [hl] at this
    exact this
  have w1 : oW1 (encE q k n t a b) 2 = (a, (3 : Int) + 2 + (n.size : Int) + 2 + (t.size : Int) + 2, true) := by
    unfold oW1
    rw [t2]
    have := getW_app (two q ++ ([k % 256] ++ (tx n ++ tx t))) (two b ++ F) a a0 (by omega)
    simp only [List.append_assoc] at this
    rw [← e0] at this
    have hl : (((two q ++ ([k % 256] ++ (tx n ++ tx t))).length : Nat) : Int) = 3 + 2 + (n.size : Int) + 2 + t.size := by
      simp only [List.length_append, tx_len, two, List.length_cons, List.length_nil]
      omega
    rw [hl] at this
    exact this
  have w2' : oW2 (encE q k n t a b) 2 = (b, (3 : Int) + 2 + (n.size : Int) + 2 + (t.size : Int) + 2 + 2, true) := by
    unfold oW2
    rw [w1]
    have := getW_app (two q ++ ([k % 256] ++ (tx n ++ (tx t ++ two a)))) F b b0 (by omega)
    simp only [List.append_assoc] at this
    rw [← e0] at this
    have hl : (((two q ++ ([k % 256] ++ (tx n ++ (tx t ++ two a)))).length : Nat) : Int) = 3 + 2 + (n.size : Int) + 2 + t.size + 2 := by
      simp only [List.length_append, tx_len, two, List.length_cons, List.length_nil]
      omega
    rw [hl] at this
    exact this
  have hv : opv (encE q k n t a b) 2 = (k, n, t, a, b, (3 : Int) + 2 + (n.size : Int) + 2 + (t.size : Int) + 2 + 2) := by
    unfold opv
    rw [t1, t2, w1, w2', yk]
  have ho : opOk k n t a b = true := by
    unfold entOk at h
    simp only [Bool.and_eq_true] at h
    exact h.2
  have hk : opk (encE q k n t a b) 2 = true := by
    unfold opk
    rw [t1, t2, w1, w2', yk]
    simp only [ho, Bool.and_true, decide_eq_true_eq]
    omega
  have hr := crc_range _ (body_bytes q k n t a b)
  have hbl := body_len q k n t a b
  have htake : (encE q k n t a b).take ((encE q k n t a b).length - 4) = body q k n t a b := by
    rw [hlen, show 15 + n.size + t.size - 4 = (body q k n t a b).length by rw [hbl]; omega]
    exact List.take_left
  have hg : get4 (encE q k n t a b) (((encE q k n t a b).length : Int) - 4) = crc (body q k n t a b) := by
    have hp : (((encE q k n t a b).length : Nat) : Int) - 4 = ((body q k n t a b).length : Int) := by rw [hlen, hbl]; omega
    rw [hp]
    unfold get4 encE
    rw [by_app _ _ _ (Int.le_refl _), by_app _ _ ((body q k n t a b).length + 1) (by omega), by_app _ _ ((body q k n t a b).length + 2) (by omega), by_app _ _ ((body q k n t a b).length + 3) (by omega),
      Int.sub_self, show ((body q k n t a b).length : Int) + 1 - (body q k n t a b).length = 1 by omega, show ((body q k n t a b).length : Int) + 2 - (body q k n t a b).length = 2 by omega, show ((body q k n t a b).length : Int) + 3 - (body q k n t a b).length = 3 by omega]
    show crc (body q k n t a b) / 16777216 % 256 * 16777216 + crc (body q k n t a b) / 65536 % 256 * 65536 + crc (body q k n t a b) / 256 % 256 * 256 + crc (body q k n t a b) % 256 = crc (body q k n t a b)
    omega
  have hC : entC (encE q k n t a b) := by
    refine ⟨by omega, by rw [hg, htake], ⟨hk, ?_⟩, ?_⟩
    · rw [hv, hlen]
      simp only
      omega
    · rw [hv, w0]
      exact h
  refine ⟨hC, ?_⟩
  unfold entR
  rw [if_pos hC, hv, w0]
end Go.Proofs.Ytnjjkaanajifiaa.Pl

/- What is drawn: devices. No condition. -/
namespace Go.Proofs.Ytnjjkaanajifiaa.Pl
open Go.Proofs.Ytnjjkaanajifiaa.R Go.Proofs.Ytnjjkaanajifiaa.XV
set_option linter.unusedVariables false
set_option linter.unusedSimpArgs false

def devB (s : List E_s_u8) (c : List E_Wr) : Prop := (∀ a ∈ s, isBytes a ∧ List.length a ≤ 1000) ∧ (∀ w ∈ c, isBytes w.2 ∧ List.length w.2 ≤ 1000) ∧ s.length ≤ 60 ∧ c.length ≤ 70
def devR (s : List E_s_u8) (c : List E_Wr) : Prop := (∀ w ∈ c, 0 ≤ w.1 ∧ w.1 < s.length) ∧ c.length ≤ 60 ∧ 0 < s.length
/-- A step that gives a device out of a device. -/
def givesD (o : Option (List E_s_u8 × List E_Wr × Int × Bool)) (s0 : List E_s_u8) : Prop := ∃ s c z b, o = some (s, c, z, b) ∧ devB s c ∧ devR s c ∧ s.length = s0.length
end Go.Proofs.Ytnjjkaanajifiaa.Pl

/- What is drawn: devices, tails. No condition. -/
namespace Go.Proofs.Ytnjjkaanajifiaa.Pl
open Go.Proofs.Ytnjjkaanajifiaa.R Go.Proofs.Ytnjjkaanajifiaa.XV
set_option linter.unusedVariables false
set_option linter.unusedSimpArgs false

/-- A step that gives a device and the cursor. -/
def givesDC (o : Option (List E_s_u8 × List E_Wr × Int × Bool × List Int × Int × Int)) (x : List Int) : Prop := ∃ s c z b p sd, o = some (s, c, z, b, x, p, sd) ∧ devB s c ∧ 0 < s.length ∧ curOk x p ∧ c.length ≤ 60
theorem SlotOf_some (x : Int) : ∃ v, F_spec_SlotOf x = some v := by
  unfold F_spec_SlotOf
  cases decide (x < 0)
  · exact ⟨_, rfl⟩
  · exact ⟨_, rfl⟩
end Go.Proofs.Ytnjjkaanajifiaa.Pl

/- FnTails: reading a sector, the tail, the law. No condition. -/
namespace Go.Proofs.Ytnjjkaanajifiaa.Pl
open Go.Proofs.Ytnjjkaanajifiaa.R Go.Proofs.Ytnjjkaanajifiaa.XV
set_option linter.unusedVariables false
set_option linter.unusedSimpArgs false

def lastK (n : Int) (c : List E_Wr) (d : List Int) : List Int := c.foldl (fun acc w => if w.1 = n then w.2 else acc) d
theorem lastK_mem (n : Int) : ∀ (c : List E_Wr) (d : List Int) (P : List Int → Prop), (∀ w ∈ c, P w.2) → P d → P (lastK n c d)
  | [], d, P, _, h => h
  | w :: c, d, P, hc, h => by
    unfold lastK
    rw [List.foldl_cons]
    refine lastK_mem n c _ P (fun w hw => hc w (by simp [hw])) ?_
    split
    · exact hc w (by simp)
    · exact h
theorem joined1 (a : List Int) (h : a.length ≤ 2097152) : F_impl_joined [a] = some a := by
  have hF : FUEL = (FUEL - 2) + 1 + 1 := by
    have := FUEL_eq
    omega
  unfold F_impl_joined L_impl_joined_3
  rw [hF]
  have s0 : ∀ again, S_impl_joined_3 (fun x1 => some x1) again ([a], (1 : Int), (0 : Int), ([] : List E_u8)) = again ([a], 1, 1, a) := by
    intro again
    unfold S_impl_joined_3
    have hw : Go.IntKind.wrap .i64 (0 + 1) = 1 := w64 (by omega) (by omega)
    have hr : rd_s_u8 [a] 0 = a := rfl
    simp only [hw, hr, List.length_nil, List.length_cons, List.nil_append]
    rw [if_pos (by omega), if_pos (by omega), if_pos (by omega)]
    rfl
  have s1 : ∀ again, S_impl_joined_3 (fun x1 => some x1) again ([a], (1 : Int), (1 : Int), a) = some a := by
    intro again
    unfold S_impl_joined_3
    rfl
  rw [show ((List.length [a] : Nat) : Int) = 1 from rfl, iter, s0, iter, s1]
def readK (s : List E_s_u8) (c : List E_Wr) (z : Int) (n : Int) : List Int := if (devK s c z && inR n 0 ((s.length : Int) - 1)) = true then lastK n c (s.getD n.toNat []) else []
theorem readK_bytes (s : List E_s_u8) (c : List E_Wr) (z n : Int) (h : devB s c) : isBytes (readK s c z n) ∧ (readK s c z n).length ≤ 1000 := by
  unfold readK
  split
  · rename_i hc
    simp only [Bool.and_eq_true, inR_iff] at hc
    refine lastK_mem n c _ (fun l => isBytes l ∧ l.length ≤ 1000) h.2.1 (h.1 _ (getD_mem ([] : List Int) s n hc.2.1 (by omega)))
  · exact ⟨fun y hy => by simp at hy, by simp⟩
theorem spec_ReadSec_eq (s : List E_s_u8) (c : List E_Wr) (z : Int) (b : Bool) (n : Int) (h : devB s c) : F_spec_ReadSec (s, c, z, b, n) = some (readK s c z n) := by
  have hr := readK_bytes s c z n h
  obtain ⟨b1, b2, b3, b4⟩ := h
  unfold F_spec_ReadSec
  simp only [l1In_eq]
  rw [spec_DevOk_eq s c z b (by omega) (by omega), w64 (n := (s.length : Int) - 1) (by omega) (by omega)]
  simp only [Option.bind_some]
  cases hd : devK s c z with
  | false =>
    unfold readK
    rw [hd]
    rfl
  | true =>
    simp only [Bool.not_true, cond_false, Option.bind_some]
    cases hin : inR n 0 ((s.length : Int) - 1) with
    | false =>
      unfold readK
      rw [hd, hin]
      rfl
    | true =>
      have hn := inR_iff.1 hin
      have hrk : readK s c z n = lastK n c (rd_s_u8 s n) := by
        unfold readK
        rw [hd, hin]
        rfl
      simp only [Bool.not_true, cond_false]
      rw [if_pos hn.1, if_pos (by omega)]
      unfold L_spec_ReadSec_5
      refine (loop_fuel (step := S_spec_ReadSec_5 _) (fun t : Int × List Int × Int × List E_s_u8 × List E_Wr × Int × Bool => c.length - t.2.2.1.toNat) (fun t => t.1 = n ∧ 0 ≤ t.2.2.1 ∧ t.2.2.1 ≤ c.length ∧ t.2.2.2.2.1 = c ∧ lastK n (c.drop t.2.2.1.toNat) t.2.1 = readK s c z n) (fun t => some (readK s c z n)) ?_ (n, rd_s_u8 s n, 0, s, c, z, b) ⟨rfl, Int.le_refl _, by simp, rfl, by rw [hrk]; rfl⟩ (by simp; omega))
      rintro again ⟨n', d, i, s', c', z', b'⟩ ⟨rfl, i0, i1, rfl, hk⟩ hag
      simp only at i0 i1 hk hr b2 b3 b4 hn
      unfold S_spec_ReadSec_5
      simp only []
      by_cases hi : i < (c'.length : Int)
      · rw [decide_eq_true hi, cond_true, if_pos i0, if_pos hi, w64 (n := i + 1) (by omega) (by omega)]
        rw [drop_getD z_Wr c' i i0 hi] at hk
        unfold lastK at hk
        rw [List.foldl_cons] at hk
        cases he : ((rd_Wr c' i).1 == n') with
        | true =>
          have he' : (c'.getD i.toNat z_Wr).1 = n' := eq_of_beq he
          rw [if_pos he'] at hk
          rw [cond_true, if_pos i0, if_pos hi]
          exact hag _ ⟨rfl, by simp only; omega, by simp only; omega, rfl, hk⟩ (by simp only; omega)
        | false =>
          have he' : ¬ (c'.getD i.toNat z_Wr).1 = n' := fun hh => by
            rw [show ((rd_Wr c' i).1 == n') = true from beq_iff_eq.2 hh] at he
            cases he
          rw [if_neg he'] at hk
          rw [cond_false]
          exact hag _ ⟨rfl, by simp only; omega, by simp only; omega, rfl, hk⟩ (by simp only; omega)
      · rw [decide_eq_false hi, cond_false]
        rw [List.drop_of_length_le (by omega)] at hk
        have hk' : d = readK s c' z n' := hk
        rw [hk']
        simp only [List.length_nil, List.nil_append]
        rw [if_pos (by omega)]
theorem impl_ReadSec_eq (s : List E_s_u8) (c : List E_Wr) (z : Int) (b : Bool) (n : Int) (h : devB s c) : F_impl_ReadSec (s, c, z, b, n) = some (readK s c z n) := by
  have hr := readK_bytes s c z n h
  obtain ⟨b1, b2, b3, b4⟩ := h
  unfold F_impl_ReadSec
  simp only [within_eq]
  rw [impl_DevOk_eq s c z b (by omega) (by omega), w64 (n := (s.length : Int) - 1) (by omega) (by omega)]
  simp only [Option.bind_some]
  cases hd : devK s c z with
  | false =>
    unfold readK
    rw [hd]
    rfl
  | true =>
    simp only [Bool.not_true, cond_false, Option.bind_some]
    cases hin : inR n 0 ((s.length : Int) - 1) with
    | false =>
      unfold readK
      rw [hd, hin]
      rfl
    | true =>
      have hn := inR_iff.1 hin
      have hrk : readK s c z n = lastK n c (rd_s_u8 s n) := by
        unfold readK
        rw [hd, hin]
        rfl
      simp only [Bool.not_true, cond_false]
      rw [w64 (n := (c.length : Int) - 1) (by omega) (by omega)]
      unfold L_impl_ReadSec_4
      refine (loop_fuel (step := S_impl_ReadSec_4 _ _) (fun t : Int × Int × List E_s_u8 × List E_Wr × Int × Bool => (t.2.1 + 1).toNat) (fun t => t.1 = n ∧ -1 ≤ t.2.1 ∧ t.2.1 < c.length ∧ t.2.2.1 = s ∧ t.2.2.2.1 = c ∧ lastK n (c.take (t.2.1 + 1).toNat) (rd_s_u8 s n) = readK s c z n) (fun t => some (readK s c z n)) ?_ (n, (c.length : Int) - 1, s, c, z, b) ⟨rfl, by simp only; omega, by simp only; omega, rfl, rfl, by simp only; rw [List.take_of_length_le (by omega), hrk]⟩ (by simp only; omega))
      rintro again ⟨n', i, s', c', z', b'⟩ ⟨rfl, i0, i1, rfl, rfl, hk⟩ hag
      simp only at i0 i1 hk hr b2 b3 b4 hn
      unfold S_impl_ReadSec_4
      simp only []
      by_cases hi : i ≥ 0
      · rw [decide_eq_true hi, cond_true, if_pos hi, if_pos i1, w64 (n := i - 1) (by omega) (by omega)]
        have htk : c'.take (i + 1).toNat = c'.take i.toNat ++ [c'.getD i.toNat z_Wr] := by
          rw [show (i + 1).toNat = i.toNat + 1 by omega, List.take_succ_eq_append_getElem (by omega), getD_get z_Wr c' i hi i1]
        rw [htk] at hk
        unfold lastK at hk
        rw [List.foldl_append, List.foldl_cons, List.foldl_nil] at hk
        cases he : ((rd_Wr c' i).1 == n') with
        | true =>
          have he' : (c'.getD i.toNat z_Wr).1 = n' := eq_of_beq he
          rw [if_pos he'] at hk
          rw [cond_true, if_pos hi, if_pos i1]
          have hk' : (rd_Wr c' i).2 = readK s' c' z n' := hk
          rw [hk', joined1 _ (by omega)]
          rfl
        | false =>
          have he' : ¬ (c'.getD i.toNat z_Wr).1 = n' := fun hh => by
            rw [show ((rd_Wr c' i).1 == n') = true from beq_iff_eq.2 hh] at he
            cases he
          rw [if_neg he'] at hk
          rw [cond_false]
          exact hag _ ⟨rfl, by simp only; omega, by simp only; omega, rfl, rfl, by simp only; rw [show (i - 1 + 1).toNat = i.toNat by omega]; exact hk⟩ (by simp only; omega)
      · rw [decide_eq_false hi, cond_false]
        have hi' : i = -1 := by omega
        subst hi'
        have hk' : rd_s_u8 s' n' = readK s' c' z n' := hk
        rw [if_pos hn.1, if_pos (by omega), hk', joined1 _ (by omega)]
        rfl
/-! ### The tail -/
noncomputable def entAt (s : List E_s_u8) (c : List E_Wr) (z q i : Int) : Int × Int × ByteArray × ByteArray × Int × Int × Bool := entR (readK s c z (2 + (q + i) % 6))
noncomputable def hitB (s : List E_s_u8) (c : List E_Wr) (z q i : Int) : Bool := (entAt s c z q i).2.2.2.2.2.2 && ((entAt s c z q i).1 == q + i)
noncomputable def entV (s : List E_s_u8) (c : List E_Wr) (z q i : Int) : E_Ent := ((entAt s c z q i).1, (entAt s c z q i).2.1, (entAt s c z q i).2.2.1, (entAt s c z q i).2.2.2.1, (entAt s c z q i).2.2.2.2.1, (entAt s c z q i).2.2.2.2.2.1)
noncomputable def tailK (s : List E_s_u8) (c : List E_Wr) (z q : Int) : Nat → Int → List E_Ent
  | 0, _ => []
  | m + 1, i => if hitB s c z q i = true then entV s c z q i :: tailK s c z q m (i + 1) else []
theorem spec_SlotOf_pos (x : Int) (h0 : 0 ≤ x) (h1 : x ≤ 1000000) : F_spec_SlotOf x = some (2 + x % 6) := by
  unfold F_spec_SlotOf
  rw [decide_eq_false (by omega), cond_false, Int.tmod_eq_emod_of_nonneg h0, w64 (by omega) (by omega)]
theorem impl_SlotOf_pos (x : Int) (h0 : 0 ≤ x) (h1 : x ≤ 1000000) : F_impl_SlotOf x = some (2 + x % 6) := by
  unfold F_impl_SlotOf
  rw [decide_eq_false (by omega), cond_false, Int.tmod_eq_emod_of_nonneg h0, w64 (by omega) (by omega)]
theorem spec_TailOf_eq (s : List E_s_u8) (c : List E_Wr) (z : Int) (b : Bool) (q : Int) (h : devB s c) (q0 : -1 ≤ q) (q1 : q ≤ 60000) : F_spec_TailOf (s, c, z, b, q) = some (if 1 ≤ q then tailK s c z q 6 0 else []) := by
  unfold F_spec_TailOf L_spec_TailOf_3
  refine (loop_fuel (step := S_spec_TailOf_3 _ _) (fun t : Int × Int × List E_s_u8 × List E_Wr × Int × Bool × List E_Ent => (6 - t.2.1).toNat) (fun t => t.1 = q ∧ 0 ≤ t.2.1 ∧ t.2.1 ≤ 6 ∧ t.2.2.1 = s ∧ t.2.2.2.1 = c ∧ t.2.2.2.2.1 = z ∧ t.2.2.2.2.2.1 = b ∧ (t.2.2.2.2.2.2.length : Int) = t.2.1) (fun t => some (t.2.2.2.2.2.2 ++ (if 1 ≤ q then tailK s c z q (6 - t.2.1).toNat t.2.1 else []))) ?_ (q, 0, s, c, z, b, []) ⟨rfl, Int.le_refl _, by simp, rfl, rfl, rfl, rfl, rfl⟩ (by simp)).trans ?_
  · rintro again ⟨q', i, s', c', z', b', l⟩ ⟨rfl, i0, i1, rfl, rfl, rfl, rfl, hl⟩ hag
    simp only at i0 i1 hl
    unfold S_spec_TailOf_3
    simp only [l1In_eq]
    by_cases hi : i < 6
    · rw [decide_eq_true hi, cond_true]
      simp only [Option.bind_some]
      by_cases hq : 1 ≤ q'
      · rw [show inR q' 1 60000 = true from inR_iff.2 ⟨hq, q1⟩, cond_true, w64 (n := q' + i) (by omega) (by omega), spec_SlotOf_pos _ (by omega) (by omega)]
        simp only [Option.bind_some]
        have hr := readK_bytes s' c' z' (2 + (q' + i) % 6) h
        rw [spec_ReadSec_eq s' c' z' b' _ h]
        simp only [Option.bind_some]
        rw [spec_GetEnt_eq _ hr.1 (by omega)]
        simp only [Option.bind_some, if_pos hq]
        rw [show (6 - i).toNat = (6 - (i + 1)).toNat + 1 by omega, tailK]
        show Option.bind (bif !(entAt s' c' z' q' i).2.2.2.2.2.2 then some true else some ((entAt s' c' z' q' i).1 != q' + i)) _ = _
        cases hb1 : (entAt s' c' z' q' i).2.2.2.2.2.2 with
        | false =>
          have : hitB s' c' z' q' i = false := by unfold hitB; rw [hb1]; rfl
          rw [this]
          simp
        | true =>
          cases hb2 : ((entAt s' c' z' q' i).1 == q' + i) with
          | false =>
            have : hitB s' c' z' q' i = false := by unfold hitB; rw [hb1, hb2]; rfl
            rw [this]
            simp [bne, hb2]
          | true =>
            have : hitB s' c' z' q' i = true := by unfold hitB; rw [hb1, hb2]; rfl
            rw [this]
            simp only [bne, hb2, Bool.not_true, cond_false, Option.bind_some, List.length_cons, List.length_nil, if_true]
            rw [if_pos (by omega), w64 (n := i + 1) (by omega) (by omega)]
            refine (hag (q', i + 1, s', c', z', b', l ++ [entV s' c' z' q' i]) ⟨rfl, by simp only; omega, by simp only; omega, rfl, rfl, rfl, rfl, by simp only [List.length_append, List.length_cons, List.length_nil]; omega⟩ (by simp only; omega)).trans ?_
            simp only [if_pos hq, List.append_assoc]
            rfl
      · rw [show inR q' 1 60000 = false by cases hh : inR q' 1 60000 with | false => rfl | true => exact absurd (inR_iff.1 hh).1 hq, cond_false, if_neg hq, List.append_nil]
    · rw [decide_eq_false hi, cond_false]
      simp only [Option.bind_some, cond_false]
      rw [show (6 - i).toNat = 0 by omega]
      simp [tailK]
  · simp
theorem impl_TailOf_eq (s : List E_s_u8) (c : List E_Wr) (z : Int) (b : Bool) (q : Int) (h : devB s c) (q0 : -1 ≤ q) (q1 : q ≤ 60000) : F_impl_TailOf (s, c, z, b, q) = some (if 1 ≤ q then tailK s c z q 6 0 else []) := by
  unfold F_impl_TailOf
  simp only [within_eq, Option.bind_some]
  by_cases hq : 1 ≤ q
  · rw [show inR q 1 60000 = true from inR_iff.2 ⟨hq, q1⟩, Bool.not_true, cond_false, if_pos hq]
    unfold L_impl_TailOf_4
    refine (loop_fuel (step := S_impl_TailOf_4 _) (fun t : Int × List E_s_u8 × List E_Wr × Int × Bool × List E_Ent => 6 - t.2.2.2.2.2.length) (fun t => t.1 = q ∧ t.2.1 = s ∧ t.2.2.1 = c ∧ t.2.2.2.1 = z ∧ t.2.2.2.2.1 = b ∧ t.2.2.2.2.2.length ≤ 6) (fun t => some (t.2.2.2.2.2 ++ tailK s c z q (6 - t.2.2.2.2.2.length) (t.2.2.2.2.2.length : Int))) ?_ (q, s, c, z, b, []) ⟨rfl, rfl, rfl, rfl, rfl, by simp⟩ (by simp)).trans ?_
    · rintro again ⟨q', s', c', z', b', l⟩ ⟨rfl, rfl, rfl, rfl, rfl, hl⟩ hag
      simp only at hl
      unfold S_impl_TailOf_4
      simp only []
      by_cases hi : (l.length : Int) < 6
      · rw [decide_eq_true hi, cond_true, w64 (n := q' + (l.length : Int)) (by omega) (by omega), impl_SlotOf_pos _ (by omega) (by omega)]
        simp only [Option.bind_some]
        have hr := readK_bytes s' c' z' (2 + (q' + (l.length : Int)) % 6) h
        rw [impl_ReadSec_eq s' c' z' b' _ h]
        simp only [Option.bind_some]
        rw [impl_GetEnt_eq _ hr.1 (by omega)]
        simp only [Option.bind_some]
        rw [show 6 - l.length = (6 - (l.length + 1)) + 1 by omega, tailK]
        show Option.bind (bif !(entAt s' c' z' q' (l.length : Int)).2.2.2.2.2.2 then some true else some ((entAt s' c' z' q' (l.length : Int)).1 != q' + (l.length : Int))) _ = _
        cases hb1 : (entAt s' c' z' q' (l.length : Int)).2.2.2.2.2.2 with
        | false =>
          have : hitB s' c' z' q' (l.length : Int) = false := by unfold hitB; rw [hb1]; rfl
          rw [this]
          simp
        | true =>
          cases hb2 : ((entAt s' c' z' q' (l.length : Int)).1 == q' + (l.length : Int)) with
          | false =>
            have : hitB s' c' z' q' (l.length : Int) = false := by unfold hitB; rw [hb1, hb2]; rfl
            rw [this]
            simp [bne, hb2]
          | true =>
            have : hitB s' c' z' q' (l.length : Int) = true := by unfold hitB; rw [hb1, hb2]; rfl
            rw [this]
            simp only [bne, hb2, Bool.not_true, cond_false, Option.bind_some, List.length_cons, List.length_nil, if_true]
            rw [if_pos (by omega)]
            refine (hag (q', s', c', z', b', l ++ [entV s' c' z' q' (l.length : Int)]) ⟨rfl, rfl, rfl, rfl, rfl, by simp only [List.length_append, List.length_cons, List.length_nil]; omega⟩ (by simp only [List.length_append, List.length_cons, List.length_nil]; omega)).trans ?_
            simp only [List.append_assoc, List.length_append, List.length_cons, List.length_nil]
            rfl
      · rw [decide_eq_false hi, cond_false, show 6 - l.length = 0 by omega]
        simp [tailK]
    · simp
  · rw [show inR q 1 60000 = false by cases hh : inR q 1 60000 with | false => rfl | true => exact absurd (inR_iff.1 hh).1 hq, if_neg hq]
    rfl
end Go.Proofs.Ytnjjkaanajifiaa.Pl

/- The law of TailOf. No condition. -/
namespace Go.Proofs.Ytnjjkaanajifiaa.Pl
open Go.Proofs.Ytnjjkaanajifiaa.R Go.Proofs.Ytnjjkaanajifiaa.XV
set_option linter.unusedVariables false
set_option linter.unusedSimpArgs false

/-! ### Any device -/
def devG (s : List E_s_u8) (c : List E_Wr) (z : Int) : Prop := (devK s c z = true → devB s c) ∧ s.length ≤ 1048576 ∧ c.length ≤ 1048576
theorem readK_g (s : List E_s_u8) (c : List E_Wr) (z n : Int) (h : devG s c z) : isBytes (readK s c z n) ∧ (readK s c z n).length ≤ 1000 := by
  cases hd : devK s c z with
  | true => exact readK_bytes s c z n (h.1 hd)
  | false =>
    unfold readK
    rw [hd]
    exact ⟨fun y hy => by simp at hy, by simp⟩
theorem spec_ReadSec_g (s : List E_s_u8) (c : List E_Wr) (z : Int) (b : Bool) (n : Int) (h : devG s c z) : F_spec_ReadSec (s, c, z, b, n) = some (readK s c z n) := by
  cases hd : devK s c z with
  | true => exact spec_ReadSec_eq s c z b n (h.1 hd)
  | false =>
    unfold F_spec_ReadSec readK
    simp only [l1In_eq]
    rw [spec_DevOk_eq s c z b h.2.1 h.2.2, hd]
    rfl
theorem impl_ReadSec_g (s : List E_s_u8) (c : List E_Wr) (z : Int) (b : Bool) (n : Int) (h : devG s c z) : F_impl_ReadSec (s, c, z, b, n) = some (readK s c z n) := by
  cases hd : devK s c z with
  | true => exact impl_ReadSec_eq s c z b n (h.1 hd)
  | false =>
    unfold F_impl_ReadSec readK
    simp only [within_eq]
    rw [impl_DevOk_eq s c z b h.2.1 h.2.2, hd]
    rfl
theorem spec_TailOf_g (s : List E_s_u8) (c : List E_Wr) (z : Int) (b : Bool) (q : Int) (h : devG s c z) (q0 : -1 ≤ q) (q1 : q ≤ 60000) : F_spec_TailOf (s, c, z, b, q) = some (if 1 ≤ q then tailK s c z q 6 0 else []) := by
  unfold F_spec_TailOf L_spec_TailOf_3
  refine (loop_fuel (step := S_spec_TailOf_3 _ _) (fun t : Int × Int × List E_s_u8 × List E_Wr × Int × Bool × List E_Ent => (6 - t.2.1).toNat) (fun t => t.1 = q ∧ 0 ≤ t.2.1 ∧ t.2.1 ≤ 6 ∧ t.2.2.1 = s ∧ t.2.2.2.1 = c ∧ t.2.2.2.2.1 = z ∧ t.2.2.2.2.2.1 = b ∧ (t.2.2.2.2.2.2.length : Int) = t.2.1) (fun t => some (t.2.2.2.2.2.2 ++ (if 1 ≤ q then tailK s c z q (6 - t.2.1).toNat t.2.1 else []))) ?_ (q, 0, s, c, z, b, []) ⟨rfl, Int.le_refl _, by simp, rfl, rfl, rfl, rfl, rfl⟩ (by simp)).trans ?_
  · rintro again ⟨q', i, s', c', z', b', l⟩ ⟨rfl, i0, i1, rfl, rfl, rfl, rfl, hl⟩ hag
    simp only at i0 i1 hl
    unfold S_spec_TailOf_3
    simp only [l1In_eq]
    by_cases hi : i < 6
    · rw [decide_eq_true hi, cond_true]
      simp only [Option.bind_some]
      by_cases hq : 1 ≤ q'
      · rw [show inR q' 1 60000 = true from inR_iff.2 ⟨hq, q1⟩, cond_true, w64 (n := q' + i) (by omega) (by omega), spec_SlotOf_pos _ (by omega) (by omega)]
        simp only [Option.bind_some]
        have hr := readK_g s' c' z' (2 + (q' + i) % 6) h
        rw [spec_ReadSec_g s' c' z' b' _ h]
        simp only [Option.bind_some]
        rw [spec_GetEnt_eq _ hr.1 (by omega)]
        simp only [Option.bind_some, if_pos hq]
        rw [show (6 - i).toNat = (6 - (i + 1)).toNat + 1 by omega, tailK]
        show Option.bind (bif !(entAt s' c' z' q' i).2.2.2.2.2.2 then some true else some ((entAt s' c' z' q' i).1 != q' + i)) _ = _
        cases hb1 : (entAt s' c' z' q' i).2.2.2.2.2.2 with
        | false =>
          have : hitB s' c' z' q' i = false := by unfold hitB; rw [hb1]; rfl
          rw [this]
          simp
        | true =>
          cases hb2 : ((entAt s' c' z' q' i).1 == q' + i) with
          | false =>
            have : hitB s' c' z' q' i = false := by unfold hitB; rw [hb1, hb2]; rfl
            rw [this]
            simp [bne, hb2]
          | true =>
            have : hitB s' c' z' q' i = true := by unfold hitB; rw [hb1, hb2]; rfl
            rw [this]
            simp only [bne, hb2, Bool.not_true, cond_false, Option.bind_some, List.length_cons, List.length_nil, if_true]
            rw [if_pos (by omega), w64 (n := i + 1) (by omega) (by omega)]
            refine (hag (q', i + 1, s', c', z', b', l ++ [entV s' c' z' q' i]) ⟨rfl, by simp only; omega, by simp only; omega, rfl, rfl, rfl, rfl, by simp only [List.length_append, List.length_cons, List.length_nil]; omega⟩ (by simp only; omega)).trans ?_
            simp only [if_pos hq, List.append_assoc]
            rfl
      · rw [show inR q' 1 60000 = false by cases hh : inR q' 1 60000 with | false => rfl | true => exact absurd (inR_iff.1 hh).1 hq, cond_false, if_neg hq, List.append_nil]
    · rw [decide_eq_false hi, cond_false]
      simp only [Option.bind_some, cond_false]
      rw [show (6 - i).toNat = 0 by omega]
      simp [tailK]
  · simp
theorem impl_TailOf_g (s : List E_s_u8) (c : List E_Wr) (z : Int) (b : Bool) (q : Int) (h : devG s c z) (q0 : -1 ≤ q) (q1 : q ≤ 60000) : F_impl_TailOf (s, c, z, b, q) = some (if 1 ≤ q then tailK s c z q 6 0 else []) := by
  unfold F_impl_TailOf
  simp only [within_eq, Option.bind_some]
  by_cases hq : 1 ≤ q
  · rw [show inR q 1 60000 = true from inR_iff.2 ⟨hq, q1⟩, Bool.not_true, cond_false, if_pos hq]
    unfold L_impl_TailOf_4
    refine (loop_fuel (step := S_impl_TailOf_4 _) (fun t : Int × List E_s_u8 × List E_Wr × Int × Bool × List E_Ent => 6 - t.2.2.2.2.2.length) (fun t => t.1 = q ∧ t.2.1 = s ∧ t.2.2.1 = c ∧ t.2.2.2.1 = z ∧ t.2.2.2.2.1 = b ∧ t.2.2.2.2.2.length ≤ 6) (fun t => some (t.2.2.2.2.2 ++ tailK s c z q (6 - t.2.2.2.2.2.length) (t.2.2.2.2.2.length : Int))) ?_ (q, s, c, z, b, []) ⟨rfl, rfl, rfl, rfl, rfl, by simp⟩ (by simp)).trans ?_
    · rintro again ⟨q', s', c', z', b', l⟩ ⟨rfl, rfl, rfl, rfl, rfl, hl⟩ hag
      simp only at hl
      unfold S_impl_TailOf_4
      simp only []
      by_cases hi : (l.length : Int) < 6
      · rw [decide_eq_true hi, cond_true, w64 (n := q' + (l.length : Int)) (by omega) (by omega), impl_SlotOf_pos _ (by omega) (by omega)]
        simp only [Option.bind_some]
        have hr := readK_g s' c' z' (2 + (q' + (l.length : Int)) % 6) h
        rw [impl_ReadSec_g s' c' z' b' _ h]
        simp only [Option.bind_some]
        rw [impl_GetEnt_eq _ hr.1 (by omega)]
        simp only [Option.bind_some]
        rw [show 6 - l.length = (6 - (l.length + 1)) + 1 by omega, tailK]
        show Option.bind (bif !(entAt s' c' z' q' (l.length : Int)).2.2.2.2.2.2 then some true else some ((entAt s' c' z' q' (l.length : Int)).1 != q' + (l.length : Int))) _ = _
        cases hb1 : (entAt s' c' z' q' (l.length : Int)).2.2.2.2.2.2 with
        | false =>
          have : hitB s' c' z' q' (l.length : Int) = false := by unfold hitB; rw [hb1]; rfl
          rw [this]
          simp
        | true =>
          cases hb2 : ((entAt s' c' z' q' (l.length : Int)).1 == q' + (l.length : Int)) with
          | false =>
            have : hitB s' c' z' q' (l.length : Int) = false := by unfold hitB; rw [hb1, hb2]; rfl
            rw [this]
            simp [bne, hb2]
          | true =>
            have : hitB s' c' z' q' (l.length : Int) = true := by unfold hitB; rw [hb1, hb2]; rfl
            rw [this]
            simp only [bne, hb2, Bool.not_true, cond_false, Option.bind_some, List.length_cons, List.length_nil, if_true]
            rw [if_pos (by omega)]
            refine (hag (q', s', c', z', b', l ++ [entV s' c' z' q' (l.length : Int)]) ⟨rfl, rfl, rfl, rfl, rfl, by simp only [List.length_append, List.length_cons, List.length_nil]; omega⟩ (by simp only [List.length_append, List.length_cons, List.length_nil]; omega)).trans ?_
            simp only [List.append_assoc, List.length_append, List.length_cons, List.length_nil]
            rfl
      · rw [decide_eq_false hi, cond_false, show 6 - l.length = 0 by omega]
        simp [tailK]
    · simp
  · rw [show inR q 1 60000 = false by cases hh : inR q 1 60000 with | false => rfl | true => exact absurd (inR_iff.1 hh).1 hq, if_neg hq]
    rfl
end Go.Proofs.Ytnjjkaanajifiaa.Pl

/- The law of TailOf: marks, and all together. No condition. -/
namespace Go.Proofs.Ytnjjkaanajifiaa.Pl
open Go.Proofs.Ytnjjkaanajifiaa.R Go.Proofs.Ytnjjkaanajifiaa.XV
set_option linter.unusedVariables false
set_option linter.unusedSimpArgs false

theorem anyE_no {A : Type} (p : Int → A → Bool) : ∀ (l : List A) (i : Int), anyE p l i = false → ∀ a ∈ l, ∃ j, p j a = false
  | [], _, _, a, h => by simp at h
  | b :: l, i, h, a, ha => by
    simp only [anyE, Bool.or_eq_false_iff] at h
    rcases List.mem_cons.1 ha with rfl | ha
    · exact ⟨i, h.1⟩
    · exact anyE_no p l (i + 1) h.2 a ha
theorem tailK_len (s : List E_s_u8) (c : List E_Wr) (z q : Int) : ∀ (m : Nat) (i : Int), (tailK s c z q m i).length ≤ m
  | 0, _ => by simp [tailK]
  | m + 1, i => by
    rw [tailK]
    split
    · have := tailK_len s c z q m (i + 1)
      simp only [List.length_cons]
      omega
    · simp
theorem tail_both (s : List E_s_u8) (c : List E_Wr) (z : Int) (b : Bool) (q : Int) (h : devG s c z) : ∃ l : List E_Ent, l.length ≤ 6 ∧ F_spec_TailOf (s, c, z, b, q) = some l ∧ F_impl_TailOf (s, c, z, b, q) = some l := by
  cases hq : inR q 1 60000 with
  | true =>
    have hq' := inR_iff.1 hq
    refine ⟨_, ?_, spec_TailOf_g s c z b q h (by omega) hq'.2, impl_TailOf_g s c z b q h (by omega) hq'.2⟩
    split
    · exact tailK_len s c z q 6 0
    · simp
  | false =>
    refine ⟨[], by simp, ?_, ?_⟩
    · unfold F_spec_TailOf L_spec_TailOf_3
      have hF : FUEL = (FUEL - 1) + 1 := by
        have := FUEL_eq
        omega
      rw [hF, iter]
      unfold S_spec_TailOf_3
      simp only [l1In_eq, hq]
      rfl
    · unfold F_impl_TailOf
      simp only [within_eq, hq, Option.bind_some]
      rfl
theorem eqEntS_refl (l : List E_Ent) (hl : l.length ≤ 1099511627776) : F_laws_eqEntS (l, l) = some true := by
  unfold F_laws_eqEntS L_laws_eqEntS_4
  simp only [bne_self_eq_false, cond_false]
  refine eq_loop (fun _ => some true) l hl ?_ ?_
  · intro again i h0 h1
    unfold S_laws_eqEntS_4
    have hw : Go.IntKind.wrap .i64 (i + 1) = i + 1 := w64 (by omega) (by omega)
    simp only [Bool.cond_eq_ite, decide_eq_true_eq, h0, h1, if_true, hw, eqEnt_refl, Option.bind_some, Bool.not_true, Bool.false_eq_true, if_false]
  · intro again i hi
    unfold S_laws_eqEntS_4
    simp only [Bool.cond_eq_ite, decide_eq_true_eq, if_neg hi]
/-! ### Marks that nobody asks for again -/
def mkB (k : Int) (n : Nat) : List Int := (List.range n).map fun (j : Nat) => Go.IntKind.wrap .u8 (k + (j : Int))
theorem mkB_succ (k : Int) (n : Nat) : mkB k (n + 1) = Go.IntKind.wrap .u8 k :: mkB (k + 1) n := by
  unfold mkB
  rw [List.range_succ_eq_map, List.map_cons, List.map_map]
  congr 1
  · simp
  · refine List.map_congr_left fun j _ => ?_
    simp only [Function.comp]
    congr 1
    omega
theorem markByteS_eq (l : List Int) (k : Int) (h0 : 0 ≤ k) (hk : k ≤ 1099511627776) (hl : l.length ≤ 1099511627776) : F_laws_markByteS (l, k) = some (k + l.length, mkB k l.length) := by
  unfold F_laws_markByteS L_laws_markByteS_2
  rw [loop_fuel (fun t : Int × Int × List Int => l.length - t.2.1.toNat) (fun t => t.1 = k + t.2.1 ∧ 0 ≤ t.2.1 ∧ t.2.1 ≤ l.length ∧ t.2.2.length = l.length) (fun t => some (k + l.length, t.2.2.take t.2.1.toNat ++ mkB t.1 (l.length - t.2.1.toNat))) ?_ (k, 0, l) ⟨by simp, by simp, by simp, rfl⟩ (by simp; omega)]
  · simp
  · rintro again ⟨k', i, o⟩ ⟨h1, h2, h3, h4⟩ hag
    simp only at h1 h2 h3 h4 ⊢
    subst h1
    unfold S_laws_markByteS_2
    simp only [Bool.cond_eq_ite, decide_eq_true_eq]
    by_cases hi : i < (List.length o : Int)
    · have hn : i.toNat < o.length := by omega
      rw [if_pos hi, if_pos h2, if_pos hi, w64 (n := i + 1) (by omega) (by omega), w64 (n := k + i + 1) (by omega) (by omega), hag (k + i + 1, i + 1, o.set i.toNat (Go.IntKind.wrap .u8 (k + i))) ⟨by simp only; omega, by simp only; omega, by simp only; omega, by simpa using h4⟩ (by simp only; omega)]
      simp only
      have e1 : (i + 1).toNat = i.toNat + 1 := by omega
      rw [e1, List.take_succ_eq_append_getElem (by simpa using hn), List.take_set_of_le (Nat.le_refl _), show l.length - i.toNat = (l.length - (i.toNat + 1)) + 1 by omega, mkB_succ]
      simp
    · rw [if_neg hi]
      have e1 : i.toNat = o.length := by omega
      have e2 : i = (l.length : Int) := by omega
      rw [List.take_of_length_le (by omega), show l.length - i.toNat = 0 by omega, e2]
      simp [mkB]
def bigN : Int := 549755813888
theorem markByteSS_ok (l : List E_s_u8) (k : Int) (h0 : 0 ≤ k) (hl : l.length ≤ 1048576) (hk : k + sumW lenB l ≤ bigN) : ∃ o, F_laws_markByteSS (l, k) = some (k + sumW lenB l, o) := by
  unfold F_laws_markByteSS L_laws_markByteSS_2
  refine ⟨_, mark_loop z_s_u8 (fun a k => mkB k (List.length a)) lenB lenB_nonneg (fun _ => True) (fun x2 => some (x2.1, x2.2)) bigN ?_ ?_ l k h0 (by omega) hk (fun _ _ => trivial)⟩
  · intro again k i l h0 h1 hk hM hl _
    unfold S_laws_markByteSS_2
    have hb : lenB (l.getD i.toNat z_s_u8) = (List.length (l.getD i.toNat z_s_u8) : Int) := rfl
    unfold bigN at hM
    have hw : Go.IntKind.wrap .i64 (i + 1) = i + 1 := w64 (by omega) (by omega)
    have he : F_laws_markByteS ((rd_s_u8 l i), k) = some (k + lenB (l.getD i.toNat z_s_u8), mkB k (List.length (l.getD i.toNat z_s_u8))) := markByteS_eq (l.getD i.toNat z_s_u8) k hk (by omega) (by omega)
    simp only [Bool.cond_eq_ite, decide_eq_true_eq, h0, h1, if_true, hw, he, Option.bind_some]
  · intro again k i l hi
    unfold S_laws_markByteSS_2
    simp only [Bool.cond_eq_ite, decide_eq_true_eq, if_neg hi]
def cntW (a : E_Wr) : Int := 1 + lenW a
theorem cntW_nonneg (a : E_Wr) : 0 ≤ cntW a := by
  have := lenW_nonneg a
  unfold cntW
  omega
theorem set_rd {A : Type} (da : A) (l : List A) (i : Int) (v : A) (h0 : 0 ≤ i) (h1 : i < (List.length l : Int)) : (l.set i.toNat v).getD i.toNat da = v := by
  rw [List.getD_eq_getElem?_getD, List.getElem?_set_self (by omega)]
  rfl
theorem markWrS_ok (l : List E_Wr) (k : Int) (h0 : 0 ≤ k) (hl : l.length ≤ 1048576) (hk : k + sumW cntW l ≤ bigN) : ∃ o, F_laws_markWrS (l, k) = some (k + sumW cntW l, o) := by
  unfold F_laws_markWrS L_laws_markWrS_2
  refine ⟨_, mark_loop z_Wr (fun a k => (k, mkB (k + 1) (List.length a.2))) cntW cntW_nonneg (fun _ => True) (fun x2 => some (x2.1, x2.2)) bigN ?_ ?_ l k h0 (by omega) hk (fun _ _ => trivial)⟩
  · intro again k i l h0 h1 hk hM hl _
    unfold S_laws_markWrS_2
    have hb : cntW (l.getD i.toNat z_Wr) = 1 + (List.length (l.getD i.toNat z_Wr).2 : Int) := rfl
    unfold bigN at hM
    have hw : Go.IntKind.wrap .i64 (i + 1) = i + 1 := w64 (by omega) (by omega)
    have hw2 : Go.IntKind.wrap .i64 (k + 1) = k + 1 := w64 (by omega) (by omega)
    have hr : ∀ v : E_Wr, rd_Wr (l.set i.toNat v) i = v := fun v => set_rd z_Wr l i v h0 h1
    have he : F_laws_markByteS ((rd_Wr l i).2, k + 1) = some (k + cntW (l.getD i.toNat z_Wr), mkB (k + 1) (List.length (l.getD i.toNat z_Wr).2)) := by
      refine (markByteS_eq (l.getD i.toNat z_Wr).2 (k + 1) (by omega) (by omega) (by omega)).trans ?_
      rw [hb, Int.add_assoc]
    simp only [Bool.cond_eq_ite, decide_eq_true_eq, h0, h1, if_true, hw, hw2, hr, he, Option.bind_some, List.length_set, List.set_set]
  · intro again k i l hi
    unfold S_laws_markWrS_2
    simp only [Bool.cond_eq_ite, decide_eq_true_eq, if_neg hi]
theorem sum_cntW (l : List E_Wr) : sumW cntW l = l.length + sumW lenW l := by
  induction l with
  | nil => rfl
  | cons a l ih =>
    rw [sumW_cons, sumW_cons, ih]
    unfold cntW
    simp only [List.length_cons]
    omega
theorem markDev_ok (s : List E_s_u8) (c : List E_LWr) (z : Int) (b : Bool) (h : smallD s c) : ∃ r o, F_laws_markDev (s, c, z, b, 1) = some (r, o) ∧ 0 ≤ r := by
  obtain ⟨h1, h2, h3, h4⟩ := h
  have w1 := sumW_nonneg lenB_nonneg s
  have w2 := sumW_nonneg lenW_nonneg c
  obtain ⟨o1, e1⟩ := markByteSS_ok s 1 (by omega) h1 (by unfold bigN; omega)
  obtain ⟨o2, e2⟩ := markWrS_ok c (1 + sumW lenB s) (by omega) h2 (by rw [sum_cntW]; unfold bigN; omega)
  unfold F_laws_markDev
  simp only [e1, e2, Option.bind_some]
  refine ⟨_, _, rfl, ?_⟩
  rw [sum_cntW]
  omega
/-! ### Marks that are held -/
theorem textOf1 (x : Int) : ByteArray.size (textOf [x]) = 1 := rfl
theorem markText_some (x : Int) (h0 : 0 ≤ x) (h1 : x ≤ 1099511627776) : ∃ r, F_laws_markText x = some r := by
  unfold F_laws_markText L_laws_markText_4
  cases hx : decide (x ≤ 0) with
  | true => exact ⟨_, rfl⟩
  | false =>
    rw [cond_false]
    refine loop_prop (step := S_laws_markText_4 _) (fun t : Int × ByteArray => t.1.toNat) (fun t => 0 ≤ t.1 ∧ t.1 + (ByteArray.size t.2 : Int) ≤ 1099511627776) (fun _ o => ∃ r, o = some r) ?_ (x, { data := #[] }) ⟨h0, by
      show x + ((ByteArray.size { data := #[] } : Nat) : Int) ≤ _
      rw [show ByteArray.size { data := #[] } = 0 from rfl]
      omega⟩ (by simp only; omega)
    rintro again ⟨y, t⟩ ⟨a0, a1⟩ hag
    simp only at a0 a1 hag
    unfold S_laws_markText_4
    simp only []
    by_cases hy : y > 0
    · have ht : Int.tdiv y 10 = y / 10 := Int.tdiv_eq_ediv_of_nonneg a0
      have hsz : ByteArray.size (textOf ([(Go.IntKind.wrap .u8 (Go.IntKind.wrap .i64 ((48 : Int) + (Int.tmod y (10 : Int)))))] : List E_u8)) = 1 := rfl
      rw [decide_eq_true hy, cond_true, if_pos (by rw [hsz]; omega), ht, w64 (n := y / 10) (by omega) (by omega)]
      refine hag (y / 10, _) ⟨by simp only; omega, ?_⟩ (by simp only; omega)
      simp only
      rw [show ByteArray.size (textOf ([(Go.IntKind.wrap .u8 (Go.IntKind.wrap .i64 ((48 : Int) + (Int.tmod y (10 : Int)))))] : List E_u8) ++ t) = 1 + t.size from by rw [ByteArray.size_append]; rfl]
      omega
    · rw [decide_eq_false hy, cond_false, if_pos (by
        rw [show ByteArray.size { data := #[109] } = 1 from rfl]
        omega)]
      exact ⟨_, rfl⟩
noncomputable def mt (k : Int) : ByteArray := (F_laws_markText k).getD ⟨#[]⟩
theorem markText_eq (x : Int) (h0 : 0 ≤ x) (h1 : x ≤ 1099511627776) : F_laws_markText x = some (mt x) := by
  obtain ⟨r, hr⟩ := markText_some x h0 h1
  unfold mt
  rw [hr]
  rfl
noncomputable def mkEnt (_ : E_Ent) (k : Int) : E_Ent := (k, k + 1, mt (k + 2), mt (k + 3), k + 4, k + 5)
theorem add1 (k : Int) (h0 : 0 ≤ k) (h1 : k ≤ 1099511627776) : Go.IntKind.wrap .i64 (k + 1) = k + 1 := w64 (by omega) (by omega)
theorem markEntS_eq (l : List E_Ent) (hl : l.length ≤ 1000) : F_laws_markEntS (l, 1) = some (1 + sumW (fun _ : E_Ent => (6 : Int)) l, marksL mkEnt (fun _ => 6) l 1) := by
  have hs : sumW (fun _ : E_Ent => (6 : Int)) l = 6 * l.length := by
    clear hl
    induction l with
    | nil => rfl
    | cons a l ih =>
      rw [sumW_cons, ih]
      simp only [List.length_cons]
      omega
  unfold F_laws_markEntS L_laws_markEntS_2
  refine mark_loop z_Ent mkEnt (fun _ => 6) (fun _ => by omega) (fun _ => True) (fun x3 => some (x3.1, x3.2)) bigN ?_ ?_ l 1 (by omega) (by omega) (by rw [hs]; unfold bigN; omega) (fun _ _ => trivial)
  · intro again k i l h0 h1 hk hM hl _
    unfold bigN at hM
    unfold S_laws_markEntS_2
    have hr : ∀ v : E_Ent, rd_Ent (l.set i.toNat v) i = v := fun v => set_rd z_Ent l i v h0 h1
    have w1 := add1 k (by omega) (by omega)
    have w2 : Go.IntKind.wrap .i64 (k + 1 + 1) = k + 2 := (add1 (k + 1) (by omega) (by omega)).trans (by omega)
    have w3 : Go.IntKind.wrap .i64 (k + 2 + 1) = k + 3 := (add1 (k + 2) (by omega) (by omega)).trans (by omega)
    have w4 : Go.IntKind.wrap .i64 (k + 3 + 1) = k + 4 := (add1 (k + 3) (by omega) (by omega)).trans (by omega)
    have w5 : Go.IntKind.wrap .i64 (k + 4 + 1) = k + 5 := (add1 (k + 4) (by omega) (by omega)).trans (by omega)
    have w6 : Go.IntKind.wrap .i64 (k + 5 + 1) = k + 6 := (add1 (k + 5) (by omega) (by omega)).trans (by omega)
    have wi := add1 i (by omega) (by omega)
    simp only [Bool.cond_eq_ite, decide_eq_true_eq, h0, h1, if_true, wi, w1, w2, w3, w4, w5, w6, hr, markText_eq (k + 2) (by omega) (by omega), markText_eq (k + 3) (by omega) (by omega), Option.bind_some, List.length_set, List.set_set, mkEnt]
  · intro again k i l hi
    unfold S_laws_markEntS_2
    simp only [Bool.cond_eq_ite, decide_eq_true_eq, if_neg hi]
theorem heldEntS_eq (l : List E_Ent) (hl : l.length ≤ 1000) : F_laws_heldEntS (marksL mkEnt (fun _ => 6) l 1, 1) = some (1 + sumW (fun _ : E_Ent => (6 : Int)) l) := by
  have hs : sumW (fun _ : E_Ent => (6 : Int)) l = 6 * l.length := by
    clear hl
    induction l with
    | nil => rfl
    | cons a l ih =>
      rw [sumW_cons, ih]
      simp only [List.length_cons]
      omega
  unfold F_laws_heldEntS L_laws_heldEntS_2
  refine held_loop z_Ent mkEnt (fun _ => 6) (fun _ => by omega) (fun x4 => some x4) bigN ?_ ?_ l 1 (by omega) (by omega) (by rw [hs]; unfold bigN; omega)
  · intro again l k i a h0 h1 hk hM hl he
    unfold bigN at hM
    unfold S_laws_heldEntS_2
    have hr : rd_Ent l i = (k, k + 1, mt (k + 2), mt (k + 3), k + 4, k + 5) := he
    have w1 := add1 k (by omega) (by omega)
    have w2 : Go.IntKind.wrap .i64 (k + 1 + 1) = k + 2 := (add1 (k + 1) (by omega) (by omega)).trans (by omega)
    have w3 : Go.IntKind.wrap .i64 (k + 2 + 1) = k + 3 := (add1 (k + 2) (by omega) (by omega)).trans (by omega)
    have w4 : Go.IntKind.wrap .i64 (k + 3 + 1) = k + 4 := (add1 (k + 3) (by omega) (by omega)).trans (by omega)
    have w5 : Go.IntKind.wrap .i64 (k + 4 + 1) = k + 5 := (add1 (k + 4) (by omega) (by omega)).trans (by omega)
    have w6 : Go.IntKind.wrap .i64 (k + 5 + 1) = k + 6 := (add1 (k + 5) (by omega) (by omega)).trans (by omega)
    have wi := add1 i (by omega) (by omega)
    simp only [Bool.cond_eq_ite, decide_eq_true_eq, h0, h1, if_true, wi, w1, w2, w3, w4, w5, w6, hr, markText_eq (k + 2) (by omega) (by omega), markText_eq (k + 3) (by omega) (by omega), Option.bind_some, bne_self_eq_false, beq_self_eq_true, Bool.not_true, Bool.false_eq_true, if_false]
  · intro again l k i hi
    unfold S_laws_heldEntS_2
    simp only [Bool.cond_eq_ite, decide_eq_true_eq, if_neg hi]
theorem law_TailOf (s : List E_s_u8) (c : List E_LWr) (z : Int) (b : Bool) (q : Int) (hs : s.length ≤ maxLen) (hss : ∀ a ∈ s, List.length a ≤ maxLen) (hc : c.length ≤ maxLen) (hcc : ∀ a ∈ c, List.length a.2 ≤ maxLen) (hb : ∀ a ∈ s, isBytes a) (hb2 : ∀ a ∈ c, isBytes a.2) : F_laws_FnExactTailOf (s, c, z, b, q) = some true := by
  unfold F_laws_FnExactTailOf
  rcases szDev_ok s c z b hs hss hc hcc with h | ⟨r, h, r0, r1, hsm⟩
  · simp only [h, Option.bind_some]
    rfl
  · have hdev : devG s c z := by
      refine ⟨fun hd => ?_, hsm.1, hsm.2.1⟩
      unfold devK at hd
      simp only [Bool.and_eq_true, Bool.not_eq_true', inR_iff, decide_eq_true_eq] at hd
      obtain ⟨d1, d2, ⟨⟨_, d3⟩, d4⟩, _⟩ := hd
      refine ⟨fun a ha => ⟨hb a ha, ?_⟩, fun a ha => ⟨hb2 a ha, ?_⟩, by omega, by omega⟩
      · obtain ⟨i, hi⟩ := anyE_no bigB s 0 d1 a ha
        have := of_decide_eq_false hi
        omega
      · obtain ⟨i, hi⟩ := anyE_no (badW s.length) c 0 d2 a ha
        unfold badW at hi
        simp only [Bool.or_eq_false_iff] at hi
        have := of_decide_eq_false hi.2
        omega
    obtain ⟨l, hl, t1, t2⟩ := tail_both s c z b q hdev
    obtain ⟨k, o, hk, hk0⟩ := markDev_ok s c z b hsm
    have hw : 0 ≤ sumW (fun _ : E_Ent => (6 : Int)) l := sumW_nonneg (fun _ => by omega) l
    simp only [h, toDev_eq s c z b hsm, eqDev_refl s c z b hsm, t1, t2, hk, eqEntS_refl l (by omega), markEntS_eq l (by omega), heldEntS_eq l (by omega), Option.bind_some]
    rw [decide_eq_false (show ¬ r < 0 by omega), decide_eq_false (show ¬ k < 0 by omega), decide_eq_false (show ¬ (1 + sumW (fun _ : E_Ent => (6 : Int)) l) < 0 by omega)]
    simp
end Go.Proofs.Ytnjjkaanajifiaa.Pl

