/- Dev, Store. No condition. -/
import Derived.Test.YtmofdkmggfdciaaGreatPPoolOk3
set_option linter.all false
namespace Go.Proofs.YtmofdkmggfdciaaGreat.Pl
open Go.Proofs.YtmofdkmggfdciaaGreat.R Go.Proofs.YtmofdkmggfdciaaGreat.XO
theorem szByteS_ok (l : List E_u8) (hl : l.length ≤ maxLen) (n : Int) (hn0 : 0 ≤ n) (hn1 : n ≤ 1048576) : szOk n (l.length : Nat) (F_laws_szByteS (l, n)) := sz_flat n l.length hn0 hn1 hl
theorem szByteSS_ok (l : List E_s_u8) (hl : l.length ≤ maxLen) (hm : ∀ a ∈ l, List.length a ≤ maxLen) (n : Int) (hn0 : 0 ≤ n) (hn1 : n ≤ 1048576) : szOk n ((l.length : Int) + sumW (fun a : E_s_u8 => (List.length a : Int)) l) (F_laws_szByteSS (l, n)) := by
  simp only [maxLen] at hl
  unfold F_laws_szByteSS L_laws_szByteSS_5
  simp only [Bool.cond_eq_ite, decide_eq_true_eq]
  rw [w64 (n := n - l.length) (by omega) (by omega)]
  by_cases h : n - (l.length : Int) < 0
  · rw [if_pos h]
    exact ⟨-1, rfl, .inl (by omega)⟩
  · rw [if_neg h]
    have hs : ∀ again (n i r : Int), 0 ≤ i → i < (l.length : Int) → F_laws_szByteS (l.getD i.toNat z_s_u8, n) = some r → S_laws_szByteSS_5 (fun x2 => some x2.2) (fun x3 => some x3) again (l, n, i) = if r < 0 then some (-1 : Int) else again (l, r, i + 1) := by
      intro again n i r h0 h1 hr
      unfold S_laws_szByteSS_5
      have hw : Go.IntKind.wrap .i64 (i + 1) = i + 1 := w64 (by omega) (by omega)
      have hr' : F_laws_szByteS ((rd_s_u8 l i), n) = some r := hr
      simp only [Bool.cond_eq_ite, decide_eq_true_eq, h0, h1, if_true, hw, hr', Option.bind_some]
    have hd : ∀ again (n i : Int), ¬ i < (l.length : Int) → S_laws_szByteSS_5 (fun x2 => some x2.2) (fun x3 => some x3) again (l, n, i) = some n := by
      intro again n i hi
      unfold S_laws_szByteSS_5
      simp only [Bool.cond_eq_ite, decide_eq_true_eq, if_neg hi]
    rcases sz_loop z_s_u8 (fun a : E_s_u8 => (List.length a : Int)) (fun a n => F_laws_szByteS (a, n)) (step := S_laws_szByteSS_5 (fun x2 => some x2.2) (fun x3 => some x3)) (fun x2 => some x2.2) (fun x3 => some x3) l (by omega) (fun a => by exact Int.natCast_nonneg _) (fun a ha n h0 h1 => szByteS_ok a (hm a ha) n h0 h1) hs hd (n - l.length) (by omega) (by omega) with ⟨r, e⟩ | ⟨r, r0, r1, e⟩
    · rw [e]
      exact ⟨-1, rfl, .inl (by omega)⟩
    · rw [e]
      exact ⟨r, rfl, .inr ⟨r0, by omega⟩⟩
theorem szWr_ok (a : E_LWr) (hl : List.length a.2 ≤ maxLen) (n : Int) (hn0 : 0 ≤ n) (hn1 : n ≤ 1048576) : szOk n (List.length a.2 : Nat) (F_laws_szWr (a.1, a.2, n)) := by
  obtain ⟨r, hr, hc⟩ := szByteS_ok a.2 hl n hn0 hn1
  unfold F_laws_szWr
  simp only [hr, Option.bind_some, Bool.cond_eq_ite, decide_eq_true_eq]
  rcases hc with hc | ⟨h0, h1⟩
  · rw [if_pos hc]
    exact ⟨-1, rfl, .inl (by omega)⟩
  · rw [if_neg (by omega)]
    exact ⟨r, rfl, .inr ⟨h0, h1⟩⟩
theorem szWrS_ok (l : List E_LWr) (hl : l.length ≤ maxLen) (hm : ∀ a ∈ l, List.length a.2 ≤ maxLen) (n : Int) (hn0 : 0 ≤ n) (hn1 : n ≤ 1048576) : szOk n ((l.length : Int) + sumW (fun a : E_LWr => (List.length a.2 : Int)) l) (F_laws_szWrS (l, n)) := by
  simp only [maxLen] at hl
  unfold F_laws_szWrS L_laws_szWrS_5
  simp only [Bool.cond_eq_ite, decide_eq_true_eq]
  rw [w64 (n := n - l.length) (by omega) (by omega)]
  by_cases h : n - (l.length : Int) < 0
  · rw [if_pos h]
    exact ⟨-1, rfl, .inl (by omega)⟩
  · rw [if_neg h]
    have hs : ∀ again (n i r : Int), 0 ≤ i → i < (l.length : Int) → F_laws_szWr ((l.getD i.toNat z_LWr).1, (l.getD i.toNat z_LWr).2, n) = some r → S_laws_szWrS_5 (fun x2 => some x2.2) (fun x3 => some x3) again (l, n, i) = if r < 0 then some (-1 : Int) else again (l, r, i + 1) := by
      intro again n i r h0 h1 hr
      unfold S_laws_szWrS_5
      have hw : Go.IntKind.wrap .i64 (i + 1) = i + 1 := w64 (by omega) (by omega)
      have hr' : F_laws_szWr ((rd_LWr l i).1, (rd_LWr l i).2, n) = some r := hr
      simp only [Bool.cond_eq_ite, decide_eq_true_eq, h0, h1, if_true, hw, hr', Option.bind_some]
    have hd : ∀ again (n i : Int), ¬ i < (l.length : Int) → S_laws_szWrS_5 (fun x2 => some x2.2) (fun x3 => some x3) again (l, n, i) = some n := by
      intro again n i hi
      unfold S_laws_szWrS_5
      simp only [Bool.cond_eq_ite, decide_eq_true_eq, if_neg hi]
    rcases sz_loop z_LWr (fun a : E_LWr => (List.length a.2 : Int)) (fun a n => F_laws_szWr (a.1, a.2, n)) (step := S_laws_szWrS_5 (fun x2 => some x2.2) (fun x3 => some x3)) (fun x2 => some x2.2) (fun x3 => some x3) l (by omega) (fun a => by exact Int.natCast_nonneg _) (fun a ha n h0 h1 => szWr_ok a (hm a ha) n h0 h1) hs hd (n - l.length) (by omega) (by omega) with ⟨r, e⟩ | ⟨r, r0, r1, e⟩
    · rw [e]
      exact ⟨-1, rfl, .inl (by omega)⟩
    · rw [e]
      exact ⟨r, rfl, .inr ⟨r0, by omega⟩⟩
def lenB (a : E_s_u8) : Int := (List.length a : Int)
def lenW (a : E_LWr) : Int := (List.length a.2 : Int)
def smallD (s : List E_s_u8) (c : List E_LWr) : Prop := s.length ≤ 1048576 ∧ c.length ≤ 1048576 ∧ sumW lenB s ≤ 1048576 ∧ sumW lenW c ≤ 1048576
theorem lenB_nonneg (a : E_s_u8) : 0 ≤ lenB a := Int.natCast_nonneg _
theorem lenW_nonneg (a : E_LWr) : 0 ≤ lenW a := Int.natCast_nonneg _
theorem sec_small {s : List E_s_u8} (h : sumW lenB s ≤ 1048576) {a : E_s_u8} (ha : a ∈ s) : List.length a ≤ 1048576 := by
  have h4 := (sumW_mem lenB_nonneg ha).1
  have h5 : lenB a = (List.length a : Int) := rfl
  omega
theorem wr_small {c : List E_LWr} (h : sumW lenW c ≤ 1048576) {a : E_LWr} (ha : a ∈ c) : List.length a.2 ≤ 1048576 := by
  have h4 := (sumW_mem lenW_nonneg ha).1
  have h5 : lenW a = (List.length a.2 : Int) := rfl
  omega
theorem szDev_ok (s : List E_s_u8) (c : List E_LWr) (z : Int) (b : Bool) (hs : s.length ≤ maxLen) (hss : ∀ a ∈ s, List.length a ≤ maxLen) (hc : c.length ≤ maxLen) (hcc : ∀ a ∈ c, List.length a.2 ≤ maxLen) :
    F_laws_szDev (s, c, z, b, 1048576) = some (-1) ∨ ∃ r, F_laws_szDev (s, c, z, b, 1048576) = some r ∧ 0 ≤ r ∧ r ≤ 1048576 ∧ smallD s c := by
  have w1 := sumW_nonneg lenB_nonneg s
  have w2 := sumW_nonneg lenW_nonneg c
  have e1 : sumW (fun a : E_s_u8 => (List.length a : Int)) s = sumW lenB s := rfl
  have e2 : sumW (fun a : E_LWr => (List.length a.2 : Int)) c = sumW lenW c := rfl
  unfold F_laws_szDev
  rcases szStep _ _ _ (fun r1 => Option.bind (F_laws_szWrS (c, r1)) fun r2 => bif (decide (r2 < (0 : Int))) then some (-1 : Int) else some r2) (szByteSS_ok s hs hss 1048576 (by omega) (by omega)) with h | ⟨h0, h⟩
  · exact .inl h
  · rw [e1] at h0 h
    rcases szStep _ _ _ (fun r2 => some r2) (szWrS_ok c hc hcc (1048576 - ((s.length : Int) + sumW lenB s)) h0 (by omega)) with h' | ⟨h0', h'⟩
    · exact .inl (h.trans h')
    · rw [e2] at h0' h'
      exact .inr ⟨_, h.trans h', h0', by omega, by omega, by omega, by omega, by omega⟩
theorem toByteS_eq (l : List E_u8) (hl : l.length ≤ 1048576) : F_laws_toByteS l = some l := by
  unfold F_laws_toByteS L_laws_toByteS_3
  rw [if_pos (by omega), if_pos (Int.le_refl _), if_pos (by omega)]
  refine copy_loop z_u8 (fun x => some x) l (by omega) ?_ ?_ _ (by simp)
  · intro again i o h0 h1 h2
    unfold S_laws_toByteS_3
    have hw : Go.IntKind.wrap .i64 (i + 1) = i + 1 := w64 (by omega) (by omega)
    have h3 : i < (o.length : Int) := by omega
    simp only [Bool.cond_eq_ite, decide_eq_true_eq, h0, h1, h3, if_true, hw, if_true, Option.bind_some]
    rfl
  · intro again i o hi
    unfold S_laws_toByteS_3
    simp only [Bool.cond_eq_ite, decide_eq_true_eq, if_neg hi]
theorem toByteSS_eq (l : List E_s_u8) (hl : l.length ≤ 1048576) (hm : ∀ a ∈ l, F_laws_toByteS a = some a) : F_laws_toByteSS l = some l := by
  unfold F_laws_toByteSS L_laws_toByteSS_3
  rw [if_pos (by omega), if_pos (Int.le_refl _), if_pos (by omega)]
  refine copy_loop z_s_u8 (fun x => some x) l (by omega) ?_ ?_ _ (by simp)
  · intro again i o h0 h1 h2
    unfold S_laws_toByteSS_3
    have hw : Go.IntKind.wrap .i64 (i + 1) = i + 1 := w64 (by omega) (by omega)
    have h3 : i < (o.length : Int) := by omega
    have e : F_laws_toByteS (rd_s_u8 l i) = some (rd_s_u8 l i) := hm _ (getD_mem z_s_u8 l i h0 h1)
    simp only [Bool.cond_eq_ite, decide_eq_true_eq, h0, h1, h3, if_true, hw, e, Option.bind_some]
    rfl
  · intro again i o hi
    unfold S_laws_toByteSS_3
    simp only [Bool.cond_eq_ite, decide_eq_true_eq, if_neg hi]
theorem toWrS_eq (l : List E_LWr) (hl : l.length ≤ 1048576) (hm : ∀ a ∈ l, F_laws_toByteS a.2 = some a.2) : F_laws_toWrS l = some l := by
  unfold F_laws_toWrS L_laws_toWrS_3
  rw [if_pos (by omega), if_pos (Int.le_refl _), if_pos (by omega)]
  refine copy_loop z_LWr (fun x => some x) l (by omega) ?_ ?_ _ (by simp)
  · intro again i o h0 h1 h2
    unfold S_laws_toWrS_3
    have hw : Go.IntKind.wrap .i64 (i + 1) = i + 1 := w64 (by omega) (by omega)
    have h3 : i < (o.length : Int) := by omega
    have e : F_laws_toByteS (rd_LWr l i).2 = some (rd_LWr l i).2 := hm _ (getD_mem z_LWr l i h0 h1)
    simp only [Bool.cond_eq_ite, decide_eq_true_eq, h0, h1, h3, if_true, hw, F_laws_toWr, e, Option.bind_some]
    rfl
  · intro again i o hi
    unfold S_laws_toWrS_3
    simp only [Bool.cond_eq_ite, decide_eq_true_eq, if_neg hi]
theorem toDev_eq (s : List E_s_u8) (c : List E_LWr) (z : Int) (b : Bool) (h : smallD s c) : F_laws_toDev (s, c, z, b) = some (s, c, z, b) := by
  obtain ⟨h1, h2, h3, h4⟩ := h
  unfold F_laws_toDev
  simp only [toByteSS_eq s h1 fun a ha => toByteS_eq a (sec_small h3 ha), toWrS_eq c h2 fun a ha => toByteS_eq a.2 (wr_small h4 ha), Option.bind_some]
theorem eqByteS_refl (l : List E_u8) (hl : l.length ≤ 1048576) : F_laws_eqByteS (l, l) = some true := by
  unfold F_laws_eqByteS L_laws_eqByteS_4
  simp only [bne_self_eq_false, cond_false]
  refine eq_loop (fun _ => some true) l (by omega) ?_ ?_
  · intro again i h0 h1
    unfold S_laws_eqByteS_4
    have hw : Go.IntKind.wrap .i64 (i + 1) = i + 1 := w64 (by omega) (by omega)
    simp only [Bool.cond_eq_ite, decide_eq_true_eq, h0, h1, if_true, hw, if_true, Option.bind_some, bne_self_eq_false, beq_self_eq_true, Bool.not_true, Bool.false_eq_true, if_false]
  · intro again i hi
    unfold S_laws_eqByteS_4
    simp only [Bool.cond_eq_ite, decide_eq_true_eq, if_neg hi]
theorem eqByteSS_refl (l : List E_s_u8) (hl : l.length ≤ 1048576) (hm : ∀ a ∈ l, F_laws_eqByteS (a, a) = some true) : F_laws_eqByteSS (l, l) = some true := by
  unfold F_laws_eqByteSS L_laws_eqByteSS_4
  simp only [bne_self_eq_false, cond_false]
  refine eq_loop (fun _ => some true) l (by omega) ?_ ?_
  · intro again i h0 h1
    unfold S_laws_eqByteSS_4
    have hw : Go.IntKind.wrap .i64 (i + 1) = i + 1 := w64 (by omega) (by omega)
    have e : F_laws_eqByteS (rd_s_u8 l i, rd_s_u8 l i) = some true := hm _ (getD_mem z_s_u8 l i h0 h1)
    simp only [Bool.cond_eq_ite, decide_eq_true_eq, h0, h1, if_true, hw, e, Option.bind_some, bne_self_eq_false, beq_self_eq_true, Bool.not_true, Bool.false_eq_true, if_false]
  · intro again i hi
    unfold S_laws_eqByteSS_4
    simp only [Bool.cond_eq_ite, decide_eq_true_eq, if_neg hi]
theorem eqWrS_refl (l : List E_Wr) (hl : l.length ≤ 1048576) (hm : ∀ a ∈ l, F_laws_eqByteS (a.2, a.2) = some true) : F_laws_eqWrS (l, l) = some true := by
  unfold F_laws_eqWrS L_laws_eqWrS_4
  simp only [bne_self_eq_false, cond_false]
  refine eq_loop (fun _ => some true) l (by omega) ?_ ?_
  · intro again i h0 h1
    unfold S_laws_eqWrS_4
    have hw : Go.IntKind.wrap .i64 (i + 1) = i + 1 := w64 (by omega) (by omega)
    have e : F_laws_eqByteS ((rd_Wr l i).2, (rd_Wr l i).2) = some true := hm _ (getD_mem z_Wr l i h0 h1)
    simp only [Bool.cond_eq_ite, decide_eq_true_eq, h0, h1, if_true, hw, F_laws_eqWr, e, Option.bind_some, bne_self_eq_false, beq_self_eq_true, Bool.not_true, Bool.false_eq_true, if_false]
  · intro again i hi
    unfold S_laws_eqWrS_4
    simp only [Bool.cond_eq_ite, decide_eq_true_eq, if_neg hi]
theorem eqDev_refl (s : List E_s_u8) (c : List E_LWr) (z : Int) (b : Bool) (h : smallD s c) : F_laws_eqDev (s, c, z, b, s, c, z, b) = some true := by
  obtain ⟨h1, h2, h3, h4⟩ := h
  unfold F_laws_eqDev
  simp only [eqByteSS_refl s h1 fun a ha => eqByteS_refl a (sec_small h3 ha), eqWrS_refl c h2 fun a ha => eqByteS_refl a.2 (wr_small h4 ha), Option.bind_some, Bool.not_true, cond_false, bne_self_eq_false, beq_self_eq_true]
def bigB (_ : Int) (a : E_s_u8) : Bool := decide ((List.length a : Int) > 80)
def badW (n : Int) (_ : Int) (w : E_Wr) : Bool := !inR w.1 0 (n - 1) || decide ((List.length w.2 : Int) > 80)
def devK (s : List E_s_u8) (c : List E_Wr) (z : Int) : Bool := !anyE bigB s 0 && (!anyE (badW s.length) c 0 && ((inR s.length 1 60 && decide ((c.length : Int) ≤ 60)) && inR z (-1) 1000))
theorem spec_DevOk_eq (s : List E_s_u8) (c : List E_Wr) (z : Int) (b : Bool) (hs : s.length ≤ 1048576) (hc : c.length ≤ 1048576) : F_spec_DevOk (s, c, z, b) = some (devK s c z) := by
  have hw1 : Go.IntKind.wrap .i64 ((s.length : Int) - 1) = (s.length : Int) - 1 := w64 (by omega) (by omega)
  unfold F_spec_DevOk L_spec_DevOk_2
  refine (any_loop0 (step := S_spec_DevOk_2 _ _) (fun i => (i, s, c, z, b)) bigB (some false) (some (!anyE (badW s.length) c 0 && ((inR s.length 1 60 && decide ((c.length : Int) ≤ 60)) && inR z (-1) 1000))) z_s_u8 s (by omega) ?_ ?_).trans ?_
  · intro again i h0 h1
    unfold S_spec_DevOk_2 bigB
    have hw : Go.IntKind.wrap .i64 (i + 1) = i + 1 := w64 (by omega) (by omega)
    simp only [Bool.cond_eq_ite, decide_eq_true_eq, h0, h1, if_true, hw]
    rfl
  · intro again i hi
    unfold S_spec_DevOk_2
    simp only [Bool.cond_eq_ite, decide_eq_true_eq, if_neg hi]
    unfold L_spec_DevOk_7
    refine (any_loop0 (step := S_spec_DevOk_7 _ _) (fun i => (i, s, c, z, b)) (badW s.length) (some false) (some ((inR s.length 1 60 && decide ((c.length : Int) ≤ 60)) && inR z (-1) 1000)) z_Wr c (by omega) ?_ ?_).trans ?_
    · intro again i h0 h1
      unfold S_spec_DevOk_7 badW
      have hw : Go.IntKind.wrap .i64 (i + 1) = i + 1 := w64 (by omega) (by omega)
      simp only [Bool.cond_eq_ite, decide_eq_true_eq, h0, h1, if_true, hw, hw1, l1In_eq, Option.bind_some]
      show Option.bind (if (!inR (c.getD i.toNat z_Wr).1 0 ((s.length : Int) - 1)) = true then some true else some (decide ((List.length (c.getD i.toNat z_Wr).2 : Int) > 80))) _ = _
      cases inR (c.getD i.toNat z_Wr).1 0 ((s.length : Int) - 1) <;> rfl
    · intro again i hi
      unfold S_spec_DevOk_7
      simp only [Bool.cond_eq_ite, decide_eq_true_eq, if_neg hi, l1In_eq, Option.bind_some]
      cases inR s.length 1 60
      · rfl
      · by_cases h6 : (c.length : Int) ≤ 60
        · simp [h6]
        · simp [h6]
    · cases anyE (badW s.length) c 0 <;> rfl
  · unfold devK
    cases anyE bigB s 0 <;> rfl
theorem impl_DevOk_eq (s : List E_s_u8) (c : List E_Wr) (z : Int) (b : Bool) (hs : s.length ≤ 1048576) (hc : c.length ≤ 1048576) : F_impl_DevOk (s, c, z, b) = some (devK s c z) := by
  have hw1 : Go.IntKind.wrap .i64 ((s.length : Int) - 1) = (s.length : Int) - 1 := w64 (by omega) (by omega)
  have hL : L_impl_DevOk_4 (fun x5 => some x5.1) (fun x6 => L_impl_DevOk_10 (fun x9 => some x9) (fun x10 => some true) (x6.2.1, ((List.length x6.2.1 : Nat) : Int), (0 : Int), x6.1, x6.2.1, x6.2.2.1, x6.2.2.2)) (s, ((List.length s : Nat) : Int), (0 : Int), s, c, z, b) = some (!anyE bigB s 0 && !anyE (badW s.length) c 0) := by
    unfold L_impl_DevOk_4
    refine (any_loop0 (step := S_impl_DevOk_4 _ _) (fun i => (s, (s.length : Int), i, s, c, z, b)) bigB (some false) (some (!anyE (badW s.length) c 0)) z_s_u8 s (by omega) ?_ ?_).trans ?_
    · intro again i h0 h1
      unfold S_impl_DevOk_4 bigB
      have hw : Go.IntKind.wrap .i64 (i + 1) = i + 1 := w64 (by omega) (by omega)
      simp only [Bool.cond_eq_ite, decide_eq_true_eq, h0, h1, if_true, hw]
      rfl
    · intro again i hi
      unfold S_impl_DevOk_4
      simp only [Bool.cond_eq_ite, decide_eq_true_eq, if_neg hi]
      unfold L_impl_DevOk_10
      refine (any_loop0 (step := S_impl_DevOk_10 _ _) (fun i => (c, (c.length : Int), i, s, c, z, b)) (badW s.length) (some false) (some true) z_Wr c (by omega) ?_ ?_).trans ?_
      · intro again i h0 h1
        unfold S_impl_DevOk_10 badW
        have hw : Go.IntKind.wrap .i64 (i + 1) = i + 1 := w64 (by omega) (by omega)
        simp only [Bool.cond_eq_ite, decide_eq_true_eq, h0, h1, if_true, hw, hw1, within_eq, Option.bind_some]
        show Option.bind (if (!inR (c.getD i.toNat z_Wr).1 0 ((s.length : Int) - 1)) = true then some true else some (decide ((List.length (c.getD i.toNat z_Wr).2 : Int) > 80))) _ = _
        cases inR (c.getD i.toNat z_Wr).1 0 ((s.length : Int) - 1) <;> rfl
      · intro again i hi
        unfold S_impl_DevOk_10
        simp only [Bool.cond_eq_ite, decide_eq_true_eq, if_neg hi]
      · cases anyE (badW s.length) c 0 <;> rfl
    · cases anyE bigB s 0 <;> rfl
  unfold F_impl_DevOk
  simp only [hL, within_eq, Option.bind_some]
  unfold devK
  cases inR s.length 1 60
  · cases anyE bigB s 0 <;> cases anyE (badW s.length) c 0 <;> rfl
  · by_cases h6 : (c.length : Int) ≤ 60
    · have h7 : ¬ (c.length : Int) > 60 := by omega
      simp only [h6, h7, decide_true, decide_false, Bool.not_true, cond_false, cond_true, Option.bind_some]
      cases inR z (-1) 1000
      · cases anyE bigB s 0 <;> cases anyE (badW s.length) c 0 <;> rfl
      · cases anyE bigB s 0 <;> cases anyE (badW s.length) c 0 <;> rfl
    · have h7 : (c.length : Int) > 60 := by omega
      simp only [h6, h7, decide_true, decide_false, Bool.not_true, cond_false, cond_true, Option.bind_some]
      cases anyE bigB s 0 <;> cases anyE (badW s.length) c 0 <;> rfl
end Go.Proofs.YtmofdkmggfdciaaGreat.Pl
namespace Go.Proofs.YtmofdkmggfdciaaGreat.Pl
open Go.Proofs.YtmofdkmggfdciaaGreat.R Go.Proofs.YtmofdkmggfdciaaGreat.XO
section
variable (s : List E_s_u8) (c : List E_Wr) (u : Int) (b : Bool) (q : List E_i64) (t : List E_Node) (l : List E_Age) (cs : List E_Cell) (vs : List E_Vol) (z a n m : Int)
theorem StoreOk_eq (hs : s.length ≤ 1048576) (hsc : c.length ≤ 1048576) (ht : TOk t) (hl : l.length ≤ 1048576) (hc : cs.length ≤ 1048576) (hv : vs.length ≤ 1048576) (hvn : ∀ v ∈ vs, ByteArray.size v.1 ≤ maxLen) :
    ∃ r, F_spec_StoreOk (s, c, u, b, q, t, l, cs, vs, z, a, n, m) = some r ∧ F_impl_StoreOk (s, c, u, b, q, t, l, cs, vs, z, a, n, m) = some r := by
  unfold F_spec_StoreOk F_impl_StoreOk F_spec_l19Limits F_impl_storeOk
  simp only [spec_DevOk_eq s c u b hs hsc, impl_DevOk_eq s c u b hs hsc, spec_PoolOk_eq q t l cs vs z ht hl hc hv hvn, impl_PoolOk_eq q t l cs vs z ht hl hc hv hvn, l1In_eq, within_eq, Option.bind_some]
  generalize devK s c u = d1
  generalize (((List.length s : Nat) : Int) == 60) = d2
  generalize poolOkK q t l cs vs z = d3
  generalize inR n 1 50000 = d4
  generalize inR m n (IntKind.i64.wrap (n + 6)) = d5
  generalize inR m 1 50000 = d6
  generalize inR a 1 50000 = d7
  cases d1 <;> cases d2 <;> cases d3 <;> cases d4 <;> cases d5 <;> cases d6 <;> cases d7 <;> exact ⟨_, rfl, rfl⟩
end
theorem law_StoreOk (s : List E_s_u8) (c : List E_LWr) (u : Int) (b : Bool) (is : List E_i64) (ns : List E_LNode) (ags : List E_LAge) (cs : List E_LCell) (vs : List E_LVol) (z a n m : Int) (hs : s.length ≤ maxLen) (hss : ∀ a ∈ s, List.length a ≤ maxLen) (hsc : c.length ≤ maxLen) (hcc : ∀ a ∈ c, List.length a.2 ≤ maxLen)
    (hi : is.length ≤ maxLen) (hn : ns.length ≤ maxLen) (hnn : ∀ a ∈ ns, List.length a ≤ maxLen ∧ ∀ b ∈ (show List E_s_LKey from a), List.length b ≤ maxLen)
    (ha : ags.length ≤ maxLen) (hc : cs.length ≤ maxLen) (hv : vs.length ≤ maxLen) (hvv : ∀ a ∈ vs, ByteArray.size a.1 ≤ maxLen) : F_laws_FnExactStoreOk (s, c, u, b, is, ns, ags, cs, vs, z, a, n, m) = some true := by
  have hsz : F_laws_szStore (s, c, u, b, is, ns, ags, cs, vs, z, a, n, m, 1048576) = some (-1) ∨ ∃ r, F_laws_szStore (s, c, u, b, is, ns, ags, cs, vs, z, a, n, m, 1048576) = some r ∧ (r < 0 ∨ smallD s c ∧ small is ns ags cs vs) := by
    unfold F_laws_szStore
    rcases szDev_ok s c u b hs hss hsc hcc with h | ⟨r, h, r0, r1, hD⟩
    · left
      simp only [h, Option.bind_some]
      rfl
    · obtain ⟨r2, h2, h3⟩ := szPool_okN r r0 r1 is ns ags cs vs z hi hn hnn ha hc hv hvv
      simp only [h, h2, Option.bind_some, Bool.cond_eq_ite, decide_eq_true_eq, if_neg (show ¬ r < 0 by omega)]
      by_cases h4 : r2 < 0
      · exact .inl (if_pos h4)
      · right
        exact ⟨r2, if_neg h4, .inr ⟨hD, h3.resolve_left h4⟩⟩
  unfold F_laws_FnExactStoreOk
  rcases hsz with hsz | ⟨r, hsz, hcase⟩
  · simp only [hsz, Option.bind_some]
    rfl
  · simp only [hsz, Option.bind_some]
    rw [Bool.cond_eq_ite]
    by_cases h : r < 0
    · rw [if_pos (by simpa using h)]
    · rw [if_neg (by simpa using h)]
      obtain ⟨hD, hP⟩ := hcase.resolve_left h
      have hm : ∀ n ∈ ns, List.length n ≤ 1073741824 := fun n hn => by
        have := (node_small hP.2.2.1 hn).1
        omega
      have ht : TOk ns := ⟨by have := hP.2.1; omega, hm, hP.2.2.1⟩
      obtain ⟨b', e1, e2⟩ := StoreOk_eq s c u b is ns ags cs vs z a n m hD.1 hD.2.1 ht hP.2.2.2.1 hP.2.2.2.2.1 hP.2.2.2.2.2 hvv
      have hT : F_laws_toStore (s, c, u, b, is, ns, ags, cs, vs, z, a, n, m) = some (s, c, u, b, is, ns, ags, cs, vs, z, a, n, m) := by
        unfold F_laws_toStore
        simp only [toDev_eq s c u b hD, toPool_eq is ns ags cs vs z hP, Option.bind_some]
      have hE : F_laws_eqStore (s, c, u, b, is, ns, ags, cs, vs, z, a, n, m, s, c, u, b, is, ns, ags, cs, vs, z, a, n, m) = some true := by
        unfold F_laws_eqStore
        simp only [eqDev_refl s c u b hD, eqPool_refl is ns ags cs vs z hP, Option.bind_some, Bool.not_true, cond_false, bne_self_eq_false]
      simp only [hT, hE, Option.bind_some, e1, e2]
      cases b' <;> rfl
end Go.Proofs.YtmofdkmggfdciaaGreat.Pl
