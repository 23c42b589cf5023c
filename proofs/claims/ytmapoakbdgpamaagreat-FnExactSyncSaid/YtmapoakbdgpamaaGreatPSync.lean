/- Dev, Join, MarkDev, Img, Flush, CopyPool, MarkHeld, StoreK, Sync. No condition. -/
import Derived.Test.YtmapoakbdgpamaaGreatPPoolOk3
set_option linter.all false
namespace Go.Proofs.YtmapoakbdgpamaaGreat.Pl
open Go.Proofs.YtmapoakbdgpamaaGreat.R Go.Proofs.YtmapoakbdgpamaaGreat.XM
theorem szByteS_ok (l : List E_u8) (hl : l.length ≤ maxLen) (n : Int) (hn0 : 0 ≤ n) (hn1 : n ≤ 1048576) : szOk n (l.length : Nat) (F_laws_szByteS (l, n)) := sz_flat n l.length hn0 hn1 hl
theorem szByteSS_ok (l : List E_s_u8) (hl : l.length ≤ maxLen) (hm : ∀ a ∈ l, List.length a ≤ maxLen) (n : Int) (hn0 : 0 ≤ n) (hn1 : n ≤ 1048576) : szOk n ((l.length : Int) + sumW (fun a : E_s_u8 => (List.length a : Int)) l) (F_laws_szByteSS (l, n)) := by
 simp only [maxLen] at hl
 unfold F_laws_szByteSS L_laws_szByteSS_5
 simp only [Bool.cond_eq_ite, decide_eq_true_eq]
 rw [w64 (n := n - l.length) (by omega) (by omega)]
 by_cases h : n - (l.length : Int) < 0
 ·rw [if_pos h]
  exact ⟨-1, rfl, .inl (by omega)⟩
 ·rw [if_neg h]
  have hs : ∀ again (n i r : Int), 0 ≤ i → i < (l.length : Int) → F_laws_szByteS (l.getD i.toNat z_s_u8, n) = some r → S_laws_szByteSS_5 (fun x2 => some x2.2) (fun x3 => some x3) again (l, n, i) = if r < 0 then some (-1 : Int) else again (l, r, i + 1) := by
   intro again n i r h0 h1 hr
   unfold S_laws_szByteSS_5
   have hw : Go.IntKind.wrap .i64 (i + 1) = i + 1 := w64 (by omega) (by omega)
   have hr' : F_laws_szByteS ((rd_s_u8 l i), n) = some r := hr
   simp only [Bool.cond_eq_ite, decide_eq_true_eq, h0, h1, if_true, hw, hr', Option.bind_some]
  have hd : ∀ again (n i : Int), ¬ i < (l.length : Int) → S_laws_szByteSS_5 (fun x2 => some x2.2) (fun x3 => some x3) again (l, n, i) = some n := by
   intro again n i hi
   unfold S_laws_szByteSS_5
   simp only [Bool.cond_eq_ite, decide_eq_true_eq, if_neg hi]
  rcases sz_loop z_s_u8 (fun a : E_s_u8 => (List.length a : Int)) (fun a n => F_laws_szByteS (a, n)) (step := S_laws_szByteSS_5 (fun x2 => some x2.2) (fun x3 => some x3)) (fun x2 => some x2.2) (fun x3 => some x3) l (by omega) (fun a => by exact Int.natCast_nonneg _) (fun a ha n h0 h1 => szByteS_ok a (hm a ha) n h0 h1) hs hd (n - l.length) (by omega) (by omega) with ⟨r, e⟩ | ⟨r, r0, r1, e⟩
  ·rw [e]
   exact ⟨-1, rfl, .inl (by omega)⟩
  ·rw [e]
   exact ⟨r, rfl, .inr ⟨r0, by omega⟩⟩
theorem szWr_ok (a : E_LWr) (hl : List.length a.2 ≤ maxLen) (n : Int) (hn0 : 0 ≤ n) (hn1 : n ≤ 1048576) : szOk n (List.length a.2 : Nat) (F_laws_szWr (a.1, a.2, n)) := by
 obtain ⟨r, hr, hc⟩ := szByteS_ok a.2 hl n hn0 hn1
 unfold F_laws_szWr
 simp only [hr, Option.bind_some, Bool.cond_eq_ite, decide_eq_true_eq]
 rcases hc with hc | ⟨h0, h1⟩
 ·rw [if_pos hc]
  exact ⟨-1, rfl, .inl (by omega)⟩
 ·rw [if_neg (by omega)]
  exact ⟨r, rfl, .inr ⟨h0, h1⟩⟩
theorem szWrS_ok (l : List E_LWr) (hl : l.length ≤ maxLen) (hm : ∀ a ∈ l, List.length a.2 ≤ maxLen) (n : Int) (hn0 : 0 ≤ n) (hn1 : n ≤ 1048576) : szOk n ((l.length : Int) + sumW (fun a : E_LWr => (List.length a.2 : Int)) l) (F_laws_szWrS (l, n)) := by
 simp only [maxLen] at hl
 unfold F_laws_szWrS L_laws_szWrS_5
 simp only [Bool.cond_eq_ite, decide_eq_true_eq]
 rw [w64 (n := n - l.length) (by omega) (by omega)]
 by_cases h : n - (l.length : Int) < 0
 ·rw [if_pos h]
  exact ⟨-1, rfl, .inl (by omega)⟩
 ·rw [if_neg h]
  have hs : ∀ again (n i r : Int), 0 ≤ i → i < (l.length : Int) → F_laws_szWr ((l.getD i.toNat z_LWr).1, (l.getD i.toNat z_LWr).2, n) = some r → S_laws_szWrS_5 (fun x2 => some x2.2) (fun x3 => some x3) again (l, n, i) = if r < 0 then some (-1 : Int) else again (l, r, i + 1) := by
   intro again n i r h0 h1 hr
   unfold S_laws_szWrS_5
   have hw : Go.IntKind.wrap .i64 (i + 1) = i + 1 := w64 (by omega) (by omega)
   have hr' : F_laws_szWr ((rd_LWr l i).1, (rd_LWr l i).2, n) = some r := hr
   simp only [Bool.cond_eq_ite, decide_eq_true_eq, h0, h1, if_true, hw, hr', Option.bind_some]
  have hd : ∀ again (n i : Int), ¬ i < (l.length : Int) → S_laws_szWrS_5 (fun x2 => some x2.2) (fun x3 => some x3) again (l, n, i) = some n := by
   intro again n i hi
   unfold S_laws_szWrS_5
   simp only [Bool.cond_eq_ite, decide_eq_true_eq, if_neg hi]
  rcases sz_loop z_LWr (fun a : E_LWr => (List.length a.2 : Int)) (fun a n => F_laws_szWr (a.1, a.2, n)) (step := S_laws_szWrS_5 (fun x2 => some x2.2) (fun x3 => some x3)) (fun x2 => some x2.2) (fun x3 => some x3) l (by omega) (fun a => by exact Int.natCast_nonneg _) (fun a ha n h0 h1 => szWr_ok a (hm a ha) n h0 h1) hs hd (n - l.length) (by omega) (by omega) with ⟨r, e⟩ | ⟨r, r0, r1, e⟩
  ·rw [e]
   exact ⟨-1, rfl, .inl (by omega)⟩
  ·rw [e]
   exact ⟨r, rfl, .inr ⟨r0, by omega⟩⟩
def lenB (a : E_s_u8) : Int := (List.length a : Int)
def lenW (a : E_LWr) : Int := (List.length a.2 : Int)
def smallD (s : List E_s_u8) (c : List E_LWr) : Prop := s.length ≤ 1048576 ∧ c.length ≤ 1048576 ∧ sumW lenB s ≤ 1048576 ∧ sumW lenW c ≤ 1048576
theorem lenB_nonneg (a : E_s_u8) : 0 ≤ lenB a := Int.natCast_nonneg _
theorem lenW_nonneg (a : E_LWr) : 0 ≤ lenW a := Int.natCast_nonneg _
theorem sec_small {s : List E_s_u8} (h : sumW lenB s ≤ 1048576) {a : E_s_u8} (ha : a ∈ s) : List.length a ≤ 1048576 := by
 have h4 := (sumW_mem lenB_nonneg ha).1
 have h5 : lenB a = (List.length a : Int) := rfl
 omega
theorem wr_small {c : List E_LWr} (h : sumW lenW c ≤ 1048576) {a : E_LWr} (ha : a ∈ c) : List.length a.2 ≤ 1048576 := by
 have h4 := (sumW_mem lenW_nonneg ha).1
 have h5 : lenW a = (List.length a.2 : Int) := rfl
 omega
theorem szDev_ok (s : List E_s_u8) (c : List E_LWr) (z : Int) (b : Bool) (hs : s.length ≤ maxLen) (hss : ∀ a ∈ s, List.length a ≤ maxLen) (hc : c.length ≤ maxLen) (hcc : ∀ a ∈ c, List.length a.2 ≤ maxLen) :
  F_laws_szDev (s, c, z, b, 1048576) = some (-1) ∨ ∃ r, F_laws_szDev (s, c, z, b, 1048576) = some r ∧ 0 ≤ r ∧ r ≤ 1048576 ∧ smallD s c := by
 have w1 := sumW_nonneg lenB_nonneg s
 have w2 := sumW_nonneg lenW_nonneg c
 have e1 : sumW (fun a : E_s_u8 => (List.length a : Int)) s = sumW lenB s := rfl
 have e2 : sumW (fun a : E_LWr => (List.length a.2 : Int)) c = sumW lenW c := rfl
 unfold F_laws_szDev
 rcases szStep _ _ _ (fun r1 => Option.bind (F_laws_szWrS (c, r1)) fun r2 => bif (decide (r2 < (0 : Int))) then some (-1 : Int) else some r2) (szByteSS_ok s hs hss 1048576 (by omega) (by omega)) with h | ⟨h0, h⟩
 ·exact .inl h
 ·rw [e1] at h0 h
  rcases szStep _ _ _ (fun r2 => some r2) (szWrS_ok c hc hcc (1048576 - ((s.length : Int) + sumW lenB s)) h0 (by omega)) with h' | ⟨h0', h'⟩
  ·exact .inl (h.trans h')
  ·rw [e2] at h0' h'
   exact .inr ⟨_, h.trans h', h0', by omega, by omega, by omega, by omega, by omega⟩
theorem toByteS_eq (l : List E_u8) (hl : l.length ≤ 1048576) : F_laws_toByteS l = some l := by
 unfold F_laws_toByteS L_laws_toByteS_3
 rw [if_pos (by omega), if_pos (Int.le_refl _), if_pos (by omega)]
 refine copy_loop z_u8 (fun x => some x) l (by omega) ?_ ?_ _ (by simp)
 ·intro again i o h0 h1 h2
  unfold S_laws_toByteS_3
  have hw : Go.IntKind.wrap .i64 (i + 1) = i + 1 := w64 (by omega) (by omega)
  have h3 : i < (o.length : Int) := by omega
  simp only [Bool.cond_eq_ite, decide_eq_true_eq, h0, h1, h3, if_true, hw, if_true, Option.bind_some]
  rfl
 ·intro again i o hi
  unfold S_laws_toByteS_3
  simp only [Bool.cond_eq_ite, decide_eq_true_eq, if_neg hi]
theorem toByteSS_eq (l : List E_s_u8) (hl : l.length ≤ 1048576) (hm : ∀ a ∈ l, F_laws_toByteS a = some a) : F_laws_toByteSS l = some l := by
 unfold F_laws_toByteSS L_laws_toByteSS_3
 rw [if_pos (by omega), if_pos (Int.le_refl _), if_pos (by omega)]
 refine copy_loop z_s_u8 (fun x => some x) l (by omega) ?_ ?_ _ (by simp)
 ·intro again i o h0 h1 h2
  unfold S_laws_toByteSS_3
  have hw : Go.IntKind.wrap .i64 (i + 1) = i + 1 := w64 (by omega) (by omega)
  have h3 : i < (o.length : Int) := by omega
  have e : F_laws_toByteS (rd_s_u8 l i) = some (rd_s_u8 l i) := hm _ (getD_mem z_s_u8 l i h0 h1)
  simp only [Bool.cond_eq_ite, decide_eq_true_eq, h0, h1, h3, if_true, hw, e, Option.bind_some]
  rfl
 ·intro again i o hi
  unfold S_laws_toByteSS_3
  simp only [Bool.cond_eq_ite, decide_eq_true_eq, if_neg hi]
theorem toWrS_eq (l : List E_LWr) (hl : l.length ≤ 1048576) (hm : ∀ a ∈ l, F_laws_toByteS a.2 = some a.2) : F_laws_toWrS l = some l := by
 unfold F_laws_toWrS L_laws_toWrS_3
 rw [if_pos (by omega), if_pos (Int.le_refl _), if_pos (by omega)]
 refine copy_loop z_LWr (fun x => some x) l (by omega) ?_ ?_ _ (by simp)
 ·intro again i o h0 h1 h2
  unfold S_laws_toWrS_3
  have hw : Go.IntKind.wrap .i64 (i + 1) = i + 1 := w64 (by omega) (by omega)
  have h3 : i < (o.length : Int) := by omega
  have e : F_laws_toByteS (rd_LWr l i).2 = some (rd_LWr l i).2 := hm _ (getD_mem z_LWr l i h0 h1)
  simp only [Bool.cond_eq_ite, decide_eq_true_eq, h0, h1, h3, if_true, hw, F_laws_toWr, e, Option.bind_some]
  rfl
 ·intro again i o hi
  unfold S_laws_toWrS_3
  simp only [Bool.cond_eq_ite, decide_eq_true_eq, if_neg hi]
theorem toDev_eq (s : List E_s_u8) (c : List E_LWr) (z : Int) (b : Bool) (h : smallD s c) : F_laws_toDev (s, c, z, b) = some (s, c, z, b) := by
 obtain ⟨h1, h2, h3, h4⟩ := h
 unfold F_laws_toDev
 simp only [toByteSS_eq s h1 fun a ha => toByteS_eq a (sec_small h3 ha), toWrS_eq c h2 fun a ha => toByteS_eq a.2 (wr_small h4 ha), Option.bind_some]
theorem eqByteS_refl (l : List E_u8) (hl : l.length ≤ 1048576) : F_laws_eqByteS (l, l) = some true := by
 unfold F_laws_eqByteS L_laws_eqByteS_4
 simp only [bne_self_eq_false, cond_false]
 refine eq_loop (fun _ => some true) l (by omega) ?_ ?_
 ·intro again i h0 h1
  unfold S_laws_eqByteS_4
  have hw : Go.IntKind.wrap .i64 (i + 1) = i + 1 := w64 (by omega) (by omega)
  simp only [Bool.cond_eq_ite, decide_eq_true_eq, h0, h1, if_true, hw, if_true, Option.bind_some, bne_self_eq_false, beq_self_eq_true, Bool.not_true, Bool.false_eq_true, if_false]
 ·intro again i hi
  unfold S_laws_eqByteS_4
  simp only [Bool.cond_eq_ite, decide_eq_true_eq, if_neg hi]
theorem eqByteSS_refl (l : List E_s_u8) (hl : l.length ≤ 1048576) (hm : ∀ a ∈ l, F_laws_eqByteS (a, a) = some true) : F_laws_eqByteSS (l, l) = some true := by
 unfold F_laws_eqByteSS L_laws_eqByteSS_4
 simp only [bne_self_eq_false, cond_false]
 refine eq_loop (fun _ => some true) l (by omega) ?_ ?_
 ·intro again i h0 h1
  unfold S_laws_eqByteSS_4
  have hw : Go.IntKind.wrap .i64 (i + 1) = i + 1 := w64 (by omega) (by omega)
  have e : F_laws_eqByteS (rd_s_u8 l i, rd_s_u8 l i) = some true := hm _ (getD_mem z_s_u8 l i h0 h1)
  simp only [Bool.cond_eq_ite, decide_eq_true_eq, h0, h1, if_true, hw, e, Option.bind_some, bne_self_eq_false, beq_self_eq_true, Bool.not_true, Bool.false_eq_true, if_false]
 ·intro again i hi
  unfold S_laws_eqByteSS_4
  simp only [Bool.cond_eq_ite, decide_eq_true_eq, if_neg hi]
theorem eqWrS_refl (l : List E_Wr) (hl : l.length ≤ 1048576) (hm : ∀ a ∈ l, F_laws_eqByteS (a.2, a.2) = some true) : F_laws_eqWrS (l, l) = some true := by
 unfold F_laws_eqWrS L_laws_eqWrS_4
 simp only [bne_self_eq_false, cond_false]
 refine eq_loop (fun _ => some true) l (by omega) ?_ ?_
 ·intro again i h0 h1
  unfold S_laws_eqWrS_4
  have hw : Go.IntKind.wrap .i64 (i + 1) = i + 1 := w64 (by omega) (by omega)
  have e : F_laws_eqByteS ((rd_Wr l i).2, (rd_Wr l i).2) = some true := hm _ (getD_mem z_Wr l i h0 h1)
  simp only [Bool.cond_eq_ite, decide_eq_true_eq, h0, h1, if_true, hw, F_laws_eqWr, e, Option.bind_some, bne_self_eq_false, beq_self_eq_true, Bool.not_true, Bool.false_eq_true, if_false]
 ·intro again i hi
  unfold S_laws_eqWrS_4
  simp only [Bool.cond_eq_ite, decide_eq_true_eq, if_neg hi]
theorem eqDev_refl (s : List E_s_u8) (c : List E_LWr) (z : Int) (b : Bool) (h : smallD s c) : F_laws_eqDev (s, c, z, b, s, c, z, b) = some true := by
 obtain ⟨h1, h2, h3, h4⟩ := h
 unfold F_laws_eqDev
 simp only [eqByteSS_refl s h1 fun a ha => eqByteS_refl a (sec_small h3 ha), eqWrS_refl c h2 fun a ha => eqByteS_refl a.2 (wr_small h4 ha), Option.bind_some, Bool.not_true, cond_false, bne_self_eq_false, beq_self_eq_true]
def bigB (_ : Int) (a : E_s_u8) : Bool := decide ((List.length a : Int) > 80)
def badW (n : Int) (_ : Int) (w : E_Wr) : Bool := !inR w.1 0 (n - 1) || decide ((List.length w.2 : Int) > 80)
def devK (s : List E_s_u8) (c : List E_Wr) (z : Int) : Bool := !anyE bigB s 0 && (!anyE (badW s.length) c 0 && ((inR s.length 1 60 && decide ((c.length : Int) ≤ 60)) && inR z (-1) 1000))
theorem spec_DevOk_eq (s : List E_s_u8) (c : List E_Wr) (z : Int) (b : Bool) (hs : s.length ≤ 1048576) (hc : c.length ≤ 1048576) : F_spec_DevOk (s, c, z, b) = some (devK s c z) := by
 have hw1 : Go.IntKind.wrap .i64 ((s.length : Int) - 1) = (s.length : Int) - 1 := w64 (by omega) (by omega)
 unfold F_spec_DevOk L_spec_DevOk_2
 refine (any_loop0 (step := S_spec_DevOk_2 _ _) (fun i => (i, s, c, z, b)) bigB (some false) (some (!anyE (badW s.length) c 0 && ((inR s.length 1 60 && decide ((c.length : Int) ≤ 60)) && inR z (-1) 1000))) z_s_u8 s (by omega) ?_ ?_).trans ?_
 ·intro again i h0 h1
  unfold S_spec_DevOk_2 bigB
  have hw : Go.IntKind.wrap .i64 (i + 1) = i + 1 := w64 (by omega) (by omega)
  simp only [Bool.cond_eq_ite, decide_eq_true_eq, h0, h1, if_true, hw]
  rfl
 ·intro again i hi
  unfold S_spec_DevOk_2
  simp only [Bool.cond_eq_ite, decide_eq_true_eq, if_neg hi]
  unfold L_spec_DevOk_7
  refine (any_loop0 (step := S_spec_DevOk_7 _ _) (fun i => (i, s, c, z, b)) (badW s.length) (some false) (some ((inR s.length 1 60 && decide ((c.length : Int) ≤ 60)) && inR z (-1) 1000)) z_Wr c (by omega) ?_ ?_).trans ?_
  ·intro again i h0 h1
   unfold S_spec_DevOk_7 badW
   have hw : Go.IntKind.wrap .i64 (i + 1) = i + 1 := w64 (by omega) (by omega)
   simp only [Bool.cond_eq_ite, decide_eq_true_eq, h0, h1, if_true, hw, hw1, l1In_eq, Option.bind_some]
   show Option.bind (if (!inR (c.getD i.toNat z_Wr).1 0 ((s.length : Int) - 1)) = true then some true else some (decide ((List.length (c.getD i.toNat z_Wr).2 : Int) > 80))) _ = _
   cases inR (c.getD i.toNat z_Wr).1 0 ((s.length : Int) - 1) <;> rfl
  ·intro again i hi
   unfold S_spec_DevOk_7
   simp only [Bool.cond_eq_ite, decide_eq_true_eq, if_neg hi, l1In_eq, Option.bind_some]
   cases inR s.length 1 60
   ·rfl
   ·by_cases h6 : (c.length : Int) ≤ 60
    ·simp [h6]
    ·simp [h6]
  ·cases anyE (badW s.length) c 0 <;> rfl
 ·unfold devK
  cases anyE bigB s 0 <;> rfl
theorem impl_DevOk_eq (s : List E_s_u8) (c : List E_Wr) (z : Int) (b : Bool) (hs : s.length ≤ 1048576) (hc : c.length ≤ 1048576) : F_impl_DevOk (s, c, z, b) = some (devK s c z) := by
 have hw1 : Go.IntKind.wrap .i64 ((s.length : Int) - 1) = (s.length : Int) - 1 := w64 (by omega) (by omega)
 have hL : L_impl_DevOk_4 (fun x5 => some x5.1) (fun x6 => L_impl_DevOk_10 (fun x9 => some x9) (fun x10 => some true) (x6.2.1, ((List.length x6.2.1 : Nat) : Int), (0 : Int), x6.1, x6.2.1, x6.2.2.1, x6.2.2.2)) (s, ((List.length s : Nat) : Int), (0 : Int), s, c, z, b) = some (!anyE bigB s 0 && !anyE (badW s.length) c 0) := by
  unfold L_impl_DevOk_4
  refine (any_loop0 (step := S_impl_DevOk_4 _ _) (fun i => (s, (s.length : Int), i, s, c, z, b)) bigB (some false) (some (!anyE (badW s.length) c 0)) z_s_u8 s (by omega) ?_ ?_).trans ?_
  ·intro again i h0 h1
   unfold S_impl_DevOk_4 bigB
   have hw : Go.IntKind.wrap .i64 (i + 1) = i + 1 := w64 (by omega) (by omega)
   simp only [Bool.cond_eq_ite, decide_eq_true_eq, h0, h1, if_true, hw]
   rfl
  ·intro again i hi
   unfold S_impl_DevOk_4
   simp only [Bool.cond_eq_ite, decide_eq_true_eq, if_neg hi]
   unfold L_impl_DevOk_10
   refine (any_loop0 (step := S_impl_DevOk_10 _ _) (fun i => (c, (c.length : Int), i, s, c, z, b)) (badW s.length) (some false) (some true) z_Wr c (by omega) ?_ ?_).trans ?_
   ·intro again i h0 h1
    unfold S_impl_DevOk_10 badW
    have hw : Go.IntKind.wrap .i64 (i + 1) = i + 1 := w64 (by omega) (by omega)
    simp only [Bool.cond_eq_ite, decide_eq_true_eq, h0, h1, if_true, hw, hw1, within_eq, Option.bind_some]
    show Option.bind (if (!inR (c.getD i.toNat z_Wr).1 0 ((s.length : Int) - 1)) = true then some true else some (decide ((List.length (c.getD i.toNat z_Wr).2 : Int) > 80))) _ = _
    cases inR (c.getD i.toNat z_Wr).1 0 ((s.length : Int) - 1) <;> rfl
   ·intro again i hi
    unfold S_impl_DevOk_10
    simp only [Bool.cond_eq_ite, decide_eq_true_eq, if_neg hi]
   ·cases anyE (badW s.length) c 0 <;> rfl
  ·cases anyE bigB s 0 <;> rfl
 unfold F_impl_DevOk
 simp only [hL, within_eq, Option.bind_some]
 unfold devK
 cases inR s.length 1 60
 ·cases anyE bigB s 0 <;> cases anyE (badW s.length) c 0 <;> rfl
 ·by_cases h6 : (c.length : Int) ≤ 60
  ·have h7 : ¬ (c.length : Int) > 60 := by omega
   simp only [h6, h7, decide_true, decide_false, Bool.not_true, cond_false, cond_true, Option.bind_some]
   cases inR z (-1) 1000
   ·cases anyE bigB s 0 <;> cases anyE (badW s.length) c 0 <;> rfl
   ·cases anyE bigB s 0 <;> cases anyE (badW s.length) c 0 <;> rfl
  ·have h7 : (c.length : Int) > 60 := by omega
   simp only [h6, h7, decide_true, decide_false, Bool.not_true, cond_false, cond_true, Option.bind_some]
   cases anyE bigB s 0 <;> cases anyE (badW s.length) c 0 <;> rfl
end Go.Proofs.YtmapoakbdgpamaaGreat.Pl
namespace Go.Proofs.YtmapoakbdgpamaaGreat.Pl
open Go.Proofs.YtmapoakbdgpamaaGreat.R Go.Proofs.YtmapoakbdgpamaaGreat.XM
theorem app_loop {T A R : Type} {step : (T → Option R) → T → Option R} (da : A) (l : List A) (St0 : Int → T) (St1 : Int → List A → T) (k0 : Option R) (k1 : List A → Option R) (hl : l.length ≤ 1099511627776)
  (h0 : ∀ again i, 0 ≤ i → i < ((List.length l : Nat) : Int) → step again (St0 i) = again (St1 (i + 1) [l.getD i.toNat da]))
  (h1 : ∀ again i o, 0 ≤ i → i < ((List.length l : Nat) : Int) → List.length o ≤ List.length l → step again (St1 i o) = again (St1 (i + 1) (o ++ [l.getD i.toNat da])))
  (hd0 : ∀ again i, ¬ i < ((List.length l : Nat) : Int) → step again (St0 i) = k0)
  (hd1 : ∀ again i o, ¬ i < ((List.length l : Nat) : Int) → step again (St1 i o) = k1 o) : iter step FUEL (St0 0) = if l.length = 0 then k0 else k1 l := by
 have key : ∀ (m : Nat) (i : Int), 0 ≤ i → i ≤ l.length → l.length - i.toNat < m → iter step m (St1 i (l.take i.toNat)) = k1 l := by
  intro m
  induction m with
  | zero => intro i _ _ h; omega
  | succ m ih =>
   intro i i0 i1 hm
   rw [iter]
   by_cases hi : i < ((List.length l : Nat) : Int)
   ·have e1 : (i + 1).toNat = i.toNat + 1 := by omega
    have e2 : l.take i.toNat ++ [l.getD i.toNat da] = l.take (i + 1).toNat := by
     rw [e1, List.take_succ_eq_append_getElem (by omega), getD_get da l i i0 hi]
    rw [h1 _ i _ i0 hi (by rw [List.length_take]; omega), e2]
    exact ih (i + 1) (by omega) (by omega) (by omega)
   ·rw [hd1 _ i _ hi, List.take_of_length_le (by omega)]
 have hF : FUEL = (FUEL - 1) + 1 := by
  have := FUEL_eq
  omega
 rw [hF, iter]
 by_cases h : l.length = 0
 ·rw [if_pos h, hd0 _ 0 (by omega)]
 ·rw [if_neg h, h0 _ 0 (Int.le_refl _) (by omega)]
  have e : [l.getD (0 : Int).toNat da] = l.take (0 + 1 : Int).toNat := by
   cases l with
   | nil => simp at h
   | cons a l => rfl
  rw [e]
  exact key _ _ (by omega) (by omega) (by
   have := FUEL_eq
   omega)
theorem joinedOne (a : List Int) (h : a.length ≤ 2097152) : F_impl_joined [a] = some a := by
 have hF : FUEL = (FUEL - 2) + 1 + 1 := by
  have := FUEL_eq
  omega
 unfold F_impl_joined L_impl_joined_3
 rw [hF]
 have s0 : ∀ again, S_impl_joined_3 (fun x1 => some x1) again ([a], (1 : Int), (0 : Int), ([] : List E_u8)) = again ([a], 1, 1, a) := by
  intro again
  unfold S_impl_joined_3
  have hw : Go.IntKind.wrap .i64 (0 + 1) = 1 := w64 (by omega) (by omega)
  have hr : rd_s_u8 [a] 0 = a := rfl
  simp only [hw, hr, List.length_nil, List.length_cons, List.nil_append]
  rw [if_pos (by omega), if_pos (by omega), if_pos (by omega)]
  rfl
 have s1 : ∀ again, S_impl_joined_3 (fun x1 => some x1) again ([a], (1 : Int), (1 : Int), a) = some a := by
  intro again
  unfold S_impl_joined_3
  rfl
 rw [show ((List.length [a] : Nat) : Int) = 1 from rfl, iter, s0, iter, s1]
theorem len1 {A : Type} (a : A) (k : Nat) (h : k < 140737488355328) : List.length [a] * k < 140737488355328 := by
 simp only [List.length_cons, List.length_nil]
 omega
end Go.Proofs.YtmapoakbdgpamaaGreat.Pl
namespace Go.Proofs.YtmapoakbdgpamaaGreat.Pl
open Go.Proofs.YtmapoakbdgpamaaGreat.R Go.Proofs.YtmapoakbdgpamaaGreat.XM
def mkS (a : E_s_u8) (k : Int) : E_s_u8 := mkB k (List.length a)
theorem markByteSS_eq (l : List E_s_u8) (k : Int) (h0 : 0 ≤ k) (hl : l.length ≤ 1048576) (hk : k + sumW lenB l ≤ bigN) : F_laws_markByteSS (l, k) = some (k + sumW lenB l, marksL mkS lenB l k) := by
 unfold F_laws_markByteSS L_laws_markByteSS_2
 refine mark_loop z_s_u8 mkS lenB lenB_nonneg (fun _ => True) (fun x2 => some (x2.1, x2.2)) bigN ?_ ?_ l k h0 (by omega) hk (fun _ _ => trivial)
 ·intro again k i l h0 h1 hk hM hl _
  unfold S_laws_markByteSS_2
  have hb : lenB (l.getD i.toNat z_s_u8) = (List.length (l.getD i.toNat z_s_u8) : Int) := rfl
  unfold bigN at hM
  have hw : Go.IntKind.wrap .i64 (i + 1) = i + 1 := w64 (by omega) (by omega)
  have he : F_laws_markByteS ((rd_s_u8 l i), k) = some (k + lenB (l.getD i.toNat z_s_u8), mkS (l.getD i.toNat z_s_u8) k) := markByteS_eq (l.getD i.toNat z_s_u8) k hk (by omega) (by omega)
  simp only [Bool.cond_eq_ite, decide_eq_true_eq, h0, h1, if_true, hw, he, Option.bind_some]
 ·intro again k i l hi
  unfold S_laws_markByteSS_2
  simp only [Bool.cond_eq_ite, decide_eq_true_eq, if_neg hi]
theorem heldByteSS_eq (l : List E_s_u8) (k : Int) (h0 : 0 ≤ k) (hl : l.length ≤ 1048576) (hk : k + sumW lenB l ≤ bigN) : F_laws_heldByteSS (marksL mkS lenB l k, k) = some (k + sumW lenB l) := by
 unfold F_laws_heldByteSS L_laws_heldByteSS_2
 refine held_loop z_s_u8 mkS lenB lenB_nonneg (fun x => some x) bigN ?_ ?_ l k h0 (by omega) hk
 ·intro again l k i a h0 h1 hk hM hl he
  unfold S_laws_heldByteSS_2
  have hb : lenB a = (List.length a : Int) := rfl
  unfold bigN at hM
  have hw : Go.IntKind.wrap .i64 (i + 1) = i + 1 := w64 (by omega) (by omega)
  have hr : rd_s_u8 l i = mkB k (List.length a) := he
  have hn : ¬ (k + lenB a < 0) := by omega
  have h2 : F_laws_heldByteS (rd_s_u8 l i, k) = some (k + lenB a) := by rw [hr]; exact heldByteS_eq k (List.length a) hk (by omega) (by omega)
  simp only [Bool.cond_eq_ite, decide_eq_true_eq, h0, h1, if_true, hw, h2, hn, if_false, Option.bind_some]
 ·intro again l k i hi
  unfold S_laws_heldByteSS_2
  simp only [Bool.cond_eq_ite, decide_eq_true_eq, if_neg hi]
def cntW (a : E_Wr) : Int := 1 + lenW a
theorem cntW_nonneg (a : E_Wr) : 0 ≤ cntW a := by
 have := lenW_nonneg a
 unfold cntW
 omega
def mkW (a : E_Wr) (k : Int) : E_Wr := (k, mkB (k + 1) (List.length a.2))
theorem sum_cntW (l : List E_Wr) : sumW cntW l = l.length + sumW lenW l := by
 induction l with
 | nil => rfl
 | cons a l ih =>
  rw [sumW_cons, sumW_cons, ih]
  unfold cntW
  simp only [List.length_cons]
  omega
theorem markWrS_eq (l : List E_Wr) (k : Int) (h0 : 0 ≤ k) (hl : l.length ≤ 1048576) (hk : k + sumW cntW l ≤ bigN) : F_laws_markWrS (l, k) = some (k + sumW cntW l, marksL mkW cntW l k) := by
 unfold F_laws_markWrS L_laws_markWrS_2
 refine mark_loop z_Wr mkW cntW cntW_nonneg (fun _ => True) (fun x2 => some (x2.1, x2.2)) bigN ?_ ?_ l k h0 (by omega) hk (fun _ _ => trivial)
 ·intro again k i l h0 h1 hk hM hl _
  unfold S_laws_markWrS_2
  have hb : cntW (l.getD i.toNat z_Wr) = 1 + (List.length (l.getD i.toNat z_Wr).2 : Int) := rfl
  unfold bigN at hM
  have hw : Go.IntKind.wrap .i64 (i + 1) = i + 1 := w64 (by omega) (by omega)
  have hw2 : Go.IntKind.wrap .i64 (k + 1) = k + 1 := w64 (by omega) (by omega)
  have hr : ∀ v : E_Wr, rd_Wr (l.set i.toNat v) i = v := fun v => set_rd z_Wr l i v h0 h1
  have he : F_laws_markByteS ((rd_Wr l i).2, k + 1) = some (k + cntW (l.getD i.toNat z_Wr), mkB (k + 1) (List.length (l.getD i.toNat z_Wr).2)) := by
   refine (markByteS_eq (l.getD i.toNat z_Wr).2 (k + 1) (by omega) (by omega) (by omega)).trans ?_
   rw [hb, Int.add_assoc]
  simp only [Bool.cond_eq_ite, decide_eq_true_eq, h0, h1, if_true, hw, hw2, hr, he, Option.bind_some, List.length_set, List.set_set, mkW]
 ·intro again k i l hi
  unfold S_laws_markWrS_2
  simp only [Bool.cond_eq_ite, decide_eq_true_eq, if_neg hi]
theorem heldWrS_eq (l : List E_Wr) (k : Int) (h0 : 0 ≤ k) (hl : l.length ≤ 1048576) (hk : k + sumW cntW l ≤ bigN) : F_laws_heldWrS (marksL mkW cntW l k, k) = some (k + sumW cntW l) := by
 unfold F_laws_heldWrS L_laws_heldWrS_2
 refine held_loop z_Wr mkW cntW cntW_nonneg (fun x => some x) bigN ?_ ?_ l k h0 (by omega) hk
 ·intro again l k i a h0 h1 hk hM hl he
  unfold S_laws_heldWrS_2
  have hb : cntW a = 1 + (List.length a.2 : Int) := rfl
  unfold bigN at hM
  have hw : Go.IntKind.wrap .i64 (i + 1) = i + 1 := w64 (by omega) (by omega)
  have hw2 : Go.IntKind.wrap .i64 (k + 1) = k + 1 := w64 (by omega) (by omega)
  have hr : rd_Wr l i = (k, mkB (k + 1) (List.length a.2)) := he
  have hn : ¬ (k + cntW a < 0) := by omega
  have h2 : F_laws_heldByteS (mkB (k + 1) (List.length a.2), k + 1) = some (k + cntW a) := by
   refine (heldByteS_eq (k + 1) (List.length a.2) (by omega) (by omega) (by omega)).trans ?_
   rw [hb, Int.add_assoc]
  simp only [Bool.cond_eq_ite, decide_eq_true_eq, h0, h1, if_true, hw, hw2, hr, h2, hn, if_false, Option.bind_some, bne_self_eq_false, Bool.false_eq_true]
 ·intro again l k i hi
  unfold S_laws_heldWrS_2
  simp only [Bool.cond_eq_ite, decide_eq_true_eq, if_neg hi]
theorem markDev_eq (s : List E_s_u8) (c : List E_Wr) (z : Int) (b : Bool) (h : smallD s c) : F_laws_markDev (s, c, z, b, 1) = some (1 + sumW lenB s + sumW cntW c, marksL mkS lenB s 1, marksL mkW cntW c (1 + sumW lenB s)) := by
 obtain ⟨h1, h2, h3, h4⟩ := h
 have w1 := sumW_nonneg lenB_nonneg s
 have w2 := sumW_nonneg lenW_nonneg c
 unfold F_laws_markDev
 simp only [markByteSS_eq s 1 (by omega) h1 (by unfold bigN; omega), markWrS_eq c (1 + sumW lenB s) (by omega) h2 (by rw [sum_cntW]; unfold bigN; omega), Option.bind_some]
theorem heldDev_eq (s : List E_s_u8) (c : List E_Wr) (z : Int) (b : Bool) (h : smallD s c) : F_laws_heldDev (marksL mkS lenB s 1, marksL mkW cntW c (1 + sumW lenB s), z, b, 1) = some (1 + sumW lenB s + sumW cntW c) := by
 obtain ⟨h1, h2, h3, h4⟩ := h
 have w1 := sumW_nonneg lenB_nonneg s
 have w2 := sumW_nonneg lenW_nonneg c
 have w3 := sumW_nonneg cntW_nonneg c
 unfold F_laws_heldDev
 simp only [heldByteSS_eq s 1 (by omega) h1 (by unfold bigN; omega), heldWrS_eq c (1 + sumW lenB s) (by omega) h2 (by rw [sum_cntW]; unfold bigN; omega), Option.bind_some]
 rw [decide_eq_false (show ¬ (1 + sumW lenB s < 0) by omega), decide_eq_false (show ¬ (1 + sumW lenB s + sumW cntW c < 0) by omega)]
 rfl
end Go.Proofs.YtmapoakbdgpamaaGreat.Pl
namespace Go.Proofs.YtmapoakbdgpamaaGreat.Pl
open Go.Proofs.YtmapoakbdgpamaaGreat.R Go.Proofs.YtmapoakbdgpamaaGreat.XM
theorem rd_s_small {s : List E_s_u8} (h : sumW lenB s ≤ 1048576) {i : Int} (h0 : 0 ≤ i) (h1 : i < ((List.length s : Nat) : Int)) : List.length (rd_s_u8 s i) ≤ 1048576 := sec_small h (getD_mem z_s_u8 s i h0 h1)
theorem rd_w_small {c : List E_Wr} (h : sumW lenW c ≤ 1048576) {i : Int} (h0 : 0 ≤ i) (h1 : i < ((List.length c : Nat) : Int)) : List.length (rd_Wr c i).2 ≤ 1048576 := wr_small h (getD_mem z_Wr c i h0 h1)
theorem spec_copy3 {R : Type} (k0 : List E_s_u8 × List E_Wr × Int × Bool × Int × Bool × Int × Bool → Option R) (k1 : List E_s_u8 × List E_Wr × Int × Bool × Int × Bool × Int × Bool × List E_s_u8 → Option R) (s : List E_s_u8) (c : List E_Wr) (z : Int) (b : Bool) (h : smallD s c) :
  L_spec_l2Copy_3 k0 k1 (Sum.inl (0, s, c, z, b, 0, false, z, b)) = if s.length = 0 then k0 (s, c, z, b, 0, false, z, b) else k1 (s, c, z, b, 0, false, z, b, s) := by
 obtain ⟨b1, b2, b3, b4⟩ := h
 unfold L_spec_l2Copy_3
 refine app_loop (step := S_spec_l2Copy_3 k0 k1) z_s_u8 s (fun i => Sum.inl (i, s, c, z, b, 0, false, z, b)) (fun i o => Sum.inr (i, s, c, z, b, 0, false, z, b, o)) _ (fun o => k1 (s, c, z, b, 0, false, z, b, o)) (by omega) ?_ ?_ ?_ ?_
 ·intro again i h0 h1
  have hw : Go.IntKind.wrap .i64 (i + 1) = i + 1 := w64 (by omega) (by omega)
  have hr := rd_s_small b3 h0 h1
  simp only [S_spec_l2Copy_3, Bool.cond_eq_ite, decide_eq_true_eq, h0, h1, if_true, hw]
  rw [if_pos (by simp only [List.length_nil]; omega), if_pos (len1 _ _ (by decide))]
  rfl
 ·intro again i o h0 h1 h2
  have hw : Go.IntKind.wrap .i64 (i + 1) = i + 1 := w64 (by omega) (by omega)
  have hr := rd_s_small b3 h0 h1
  simp only [S_spec_l2Copy_3, Bool.cond_eq_ite, decide_eq_true_eq, h0, h1, if_true, hw]
  rw [if_pos (by simp only [List.length_nil]; omega), if_pos (by simp only [List.length_cons, List.length_nil]; omega)]
  rfl
 ·intro again i hi
  simp only [S_spec_l2Copy_3, Bool.cond_eq_ite, decide_eq_true_eq, if_neg hi]
 ·intro again i o hi
  simp only [S_spec_l2Copy_3, Bool.cond_eq_ite, decide_eq_true_eq, if_neg hi]
theorem spec_copy7a {R : Type} (k0 : Int × Bool × Int × Bool → Option R) (k1 : Int × Bool × Int × Bool × List E_Wr → Option R) (k2 : Int × Bool × Int × Bool × List E_s_u8 → Option R) (k3 : Int × Bool × Int × Bool × List E_s_u8 × List E_Wr → Option R) (s : List E_s_u8) (c : List E_Wr) (z : Int) (b : Bool) (h : smallD s c) :
  L_spec_l2Copy_7 k0 k1 k2 k3 (Sum.inl (0, s, c, z, b, 0, false, z, b)) = if c.length = 0 then k0 (0, false, z, b) else k1 (0, false, z, b, c) := by
 obtain ⟨b1, b2, b3, b4⟩ := h
 unfold L_spec_l2Copy_7
 refine app_loop (step := S_spec_l2Copy_7 k0 k1 k2 k3) z_Wr c (fun i => Sum.inl (i, s, c, z, b, 0, false, z, b)) (fun i o => Sum.inr (Sum.inl (i, s, c, z, b, 0, false, z, b, o))) _ (fun o => k1 (0, false, z, b, o)) (by omega) ?_ ?_ ?_ ?_
 ·intro again i h0 h1
  have hw : Go.IntKind.wrap .i64 (i + 1) = i + 1 := w64 (by omega) (by omega)
  have hr := rd_w_small b4 h0 h1
  simp only [S_spec_l2Copy_7, Bool.cond_eq_ite, decide_eq_true_eq, h0, h1, if_true, hw]
  rw [if_pos (by simp only [List.length_nil]; omega), if_pos (len1 _ _ (by decide))]
  rfl
 ·intro again i o h0 h1 h2
  have hw : Go.IntKind.wrap .i64 (i + 1) = i + 1 := w64 (by omega) (by omega)
  have hr := rd_w_small b4 h0 h1
  simp only [S_spec_l2Copy_7, Bool.cond_eq_ite, decide_eq_true_eq, h0, h1, if_true, hw]
  rw [if_pos (by simp only [List.length_nil]; omega), if_pos (by simp only [List.length_cons, List.length_nil]; omega)]
  rfl
 ·intro again i hi
  simp only [S_spec_l2Copy_7, Bool.cond_eq_ite, decide_eq_true_eq, if_neg hi]
 ·intro again i o hi
  simp only [S_spec_l2Copy_7, Bool.cond_eq_ite, decide_eq_true_eq, if_neg hi]
theorem spec_copy7b {R : Type} (k0 : Int × Bool × Int × Bool → Option R) (k1 : Int × Bool × Int × Bool × List E_Wr → Option R) (k2 : Int × Bool × Int × Bool × List E_s_u8 → Option R) (k3 : Int × Bool × Int × Bool × List E_s_u8 × List E_Wr → Option R) (s o : List E_s_u8) (c : List E_Wr) (z : Int) (b : Bool) (h : smallD s c) :
  L_spec_l2Copy_7 k0 k1 k2 k3 (Sum.inr (Sum.inr (Sum.inl (0, s, c, z, b, 0, false, z, b, o)))) = if c.length = 0 then k2 (0, false, z, b, o) else k3 (0, false, z, b, o, c) := by
 obtain ⟨b1, b2, b3, b4⟩ := h
 unfold L_spec_l2Copy_7
 refine app_loop (step := S_spec_l2Copy_7 k0 k1 k2 k3) z_Wr c (fun i => Sum.inr (Sum.inr (Sum.inl (i, s, c, z, b, 0, false, z, b, o)))) (fun i o' => Sum.inr (Sum.inr (Sum.inr (i, s, c, z, b, 0, false, z, b, o, o')))) _ (fun o' => k3 (0, false, z, b, o, o')) (by omega) ?_ ?_ ?_ ?_
 ·intro again i h0 h1
  have hw : Go.IntKind.wrap .i64 (i + 1) = i + 1 := w64 (by omega) (by omega)
  have hr := rd_w_small b4 h0 h1
  simp only [S_spec_l2Copy_7, Bool.cond_eq_ite, decide_eq_true_eq, h0, h1, if_true, hw]
  rw [if_pos (by simp only [List.length_nil]; omega), if_pos (len1 _ _ (by decide))]
  rfl
 ·intro again i o' h0 h1 h2
  have hw : Go.IntKind.wrap .i64 (i + 1) = i + 1 := w64 (by omega) (by omega)
  have hr := rd_w_small b4 h0 h1
  simp only [S_spec_l2Copy_7, Bool.cond_eq_ite, decide_eq_true_eq, h0, h1, if_true, hw]
  rw [if_pos (by simp only [List.length_nil]; omega), if_pos (by simp only [List.length_cons, List.length_nil]; omega)]
  rfl
 ·intro again i hi
  simp only [S_spec_l2Copy_7, Bool.cond_eq_ite, decide_eq_true_eq, if_neg hi]
 ·intro again i o' hi
  simp only [S_spec_l2Copy_7, Bool.cond_eq_ite, decide_eq_true_eq, if_neg hi]
theorem spec_l2Copy_eq (s : List E_s_u8) (c : List E_Wr) (z : Int) (b : Bool) (h : smallD s c) : F_spec_l2Copy (s, c, z, b) = some (s, c, z, b) := by
 unfold F_spec_l2Copy
 rw [spec_copy3 _ _ s c z b h]
 cases s with
 | nil =>
  rw [if_pos (show List.length ([] : List E_s_u8) = 0 from rfl)]
  simp only [spec_copy7a _ _ _ _ _ c z b h]
  cases c with
  | nil => rfl
  | cons w c => rw [if_neg (show ¬ List.length (w :: c) = 0 from by simp)]
 | cons a s =>
  rw [if_neg (show ¬ List.length (a :: s) = 0 from by simp)]
  simp only [spec_copy7b _ _ _ _ _ _ c z b h]
  cases c with
  | nil => rfl
  | cons w c => rw [if_neg (show ¬ List.length (w :: c) = 0 from by simp)]
theorem impl_copy3 {R : Type} (k0 : List E_s_u8 × List E_Wr × Int × Bool × Int × Bool × Int × Bool → Option R) (k1 : List E_s_u8 × List E_Wr × Int × Bool × Int × Bool × Int × Bool × List E_s_u8 → Option R) (s : List E_s_u8) (c : List E_Wr) (z : Int) (b : Bool) (h : smallD s c) :
  L_impl_copyDev_3 k0 k1 (Sum.inl (s, ((List.length s : Nat) : Int), 0, s, c, z, b, 0, false, z, b)) = if s.length = 0 then k0 (s, c, z, b, 0, false, z, b) else k1 (s, c, z, b, 0, false, z, b, s) := by
 obtain ⟨b1, b2, b3, b4⟩ := h
 unfold L_impl_copyDev_3
 refine app_loop (step := S_impl_copyDev_3 k0 k1) z_s_u8 s (fun i => Sum.inl (s, ((List.length s : Nat) : Int), i, s, c, z, b, 0, false, z, b)) (fun i o => Sum.inr (s, ((List.length s : Nat) : Int), i, s, c, z, b, 0, false, z, b, o)) _ (fun o => k1 (s, c, z, b, 0, false, z, b, o)) (by omega) ?_ ?_ ?_ ?_
 ·intro again i h0 h1
  have hw : Go.IntKind.wrap .i64 (i + 1) = i + 1 := w64 (by omega) (by omega)
  have hr := rd_s_small b3 h0 h1
  simp only [S_impl_copyDev_3, Bool.cond_eq_ite, decide_eq_true_eq, h0, h1, if_true, hw, joinedOne (rd_s_u8 s i) (by omega), Option.bind_some]
  rw [if_pos (len1 _ _ (by decide))]
  rfl
 ·intro again i o h0 h1 h2
  have hw : Go.IntKind.wrap .i64 (i + 1) = i + 1 := w64 (by omega) (by omega)
  have hr := rd_s_small b3 h0 h1
  simp only [S_impl_copyDev_3, Bool.cond_eq_ite, decide_eq_true_eq, h0, h1, if_true, hw, joinedOne (rd_s_u8 s i) (by omega), Option.bind_some]
  rw [if_pos (by simp only [List.length_cons, List.length_nil]; omega)]
  rfl
 ·intro again i hi
  simp only [S_impl_copyDev_3, Bool.cond_eq_ite, decide_eq_true_eq, if_neg hi]
 ·intro again i o hi
  simp only [S_impl_copyDev_3, Bool.cond_eq_ite, decide_eq_true_eq, if_neg hi]
theorem impl_copy8a {R : Type} (k0 : Int × Bool × Int × Bool → Option R) (k1 : Int × Bool × Int × Bool × List E_Wr → Option R) (k2 : Int × Bool × Int × Bool × List E_s_u8 → Option R) (k3 : Int × Bool × Int × Bool × List E_s_u8 × List E_Wr → Option R) (c : List E_Wr) (z : Int) (b : Bool) (b2 : c.length ≤ 1048576) (b4 : sumW lenW c ≤ 1048576) :
  L_impl_copyDev_8 k0 k1 k2 k3 (Sum.inl (c, ((List.length c : Nat) : Int), 0, 0, false, z, b)) = if c.length = 0 then k0 (0, false, z, b) else k1 (0, false, z, b, c) := by
 unfold L_impl_copyDev_8
 refine app_loop (step := S_impl_copyDev_8 k0 k1 k2 k3) z_Wr c (fun i => Sum.inl (c, ((List.length c : Nat) : Int), i, 0, false, z, b)) (fun i o => Sum.inr (Sum.inl (c, ((List.length c : Nat) : Int), i, 0, false, z, b, o))) _ (fun o => k1 (0, false, z, b, o)) (by omega) ?_ ?_ ?_ ?_
 ·intro again i h0 h1
  have hw : Go.IntKind.wrap .i64 (i + 1) = i + 1 := w64 (by omega) (by omega)
  have hr := rd_w_small b4 h0 h1
  simp only [S_impl_copyDev_8, Bool.cond_eq_ite, decide_eq_true_eq, h0, h1, if_true, hw, joinedOne (rd_Wr c i).2 (by omega), Option.bind_some]
  rw [if_pos (len1 _ _ (by decide))]
  rfl
 ·intro again i o h0 h1 h2
  have hw : Go.IntKind.wrap .i64 (i + 1) = i + 1 := w64 (by omega) (by omega)
  have hr := rd_w_small b4 h0 h1
  simp only [S_impl_copyDev_8, Bool.cond_eq_ite, decide_eq_true_eq, h0, h1, if_true, hw, joinedOne (rd_Wr c i).2 (by omega), Option.bind_some]
  rw [if_pos (by simp only [List.length_cons, List.length_nil]; omega)]
  rfl
 ·intro again i hi
  simp only [S_impl_copyDev_8, Bool.cond_eq_ite, decide_eq_true_eq, if_neg hi]
 ·intro again i o hi
  simp only [S_impl_copyDev_8, Bool.cond_eq_ite, decide_eq_true_eq, if_neg hi]
theorem impl_copy8b {R : Type} (k0 : Int × Bool × Int × Bool → Option R) (k1 : Int × Bool × Int × Bool × List E_Wr → Option R) (k2 : Int × Bool × Int × Bool × List E_s_u8 → Option R) (k3 : Int × Bool × Int × Bool × List E_s_u8 × List E_Wr → Option R) (o : List E_s_u8) (c : List E_Wr) (z : Int) (b : Bool) (b2 : c.length ≤ 1048576) (b4 : sumW lenW c ≤ 1048576) :
  L_impl_copyDev_8 k0 k1 k2 k3 (Sum.inr (Sum.inr (Sum.inl (c, ((List.length c : Nat) : Int), 0, 0, false, z, b, o)))) = if c.length = 0 then k2 (0, false, z, b, o) else k3 (0, false, z, b, o, c) := by
 unfold L_impl_copyDev_8
 refine app_loop (step := S_impl_copyDev_8 k0 k1 k2 k3) z_Wr c (fun i => Sum.inr (Sum.inr (Sum.inl (c, ((List.length c : Nat) : Int), i, 0, false, z, b, o)))) (fun i o' => Sum.inr (Sum.inr (Sum.inr (c, ((List.length c : Nat) : Int), i, 0, false, z, b, o, o')))) _ (fun o' => k3 (0, false, z, b, o, o')) (by omega) ?_ ?_ ?_ ?_
 ·intro again i h0 h1
  have hw : Go.IntKind.wrap .i64 (i + 1) = i + 1 := w64 (by omega) (by omega)
  have hr := rd_w_small b4 h0 h1
  simp only [S_impl_copyDev_8, Bool.cond_eq_ite, decide_eq_true_eq, h0, h1, if_true, hw, joinedOne (rd_Wr c i).2 (by omega), Option.bind_some]
  rw [if_pos (len1 _ _ (by decide))]
  rfl
 ·intro again i o' h0 h1 h2
  have hw : Go.IntKind.wrap .i64 (i + 1) = i + 1 := w64 (by omega) (by omega)
  have hr := rd_w_small b4 h0 h1
  simp only [S_impl_copyDev_8, Bool.cond_eq_ite, decide_eq_true_eq, h0, h1, if_true, hw, joinedOne (rd_Wr c i).2 (by omega), Option.bind_some]
  rw [if_pos (by simp only [List.length_cons, List.length_nil]; omega)]
  rfl
 ·intro again i hi
  simp only [S_impl_copyDev_8, Bool.cond_eq_ite, decide_eq_true_eq, if_neg hi]
 ·intro again i o' hi
  simp only [S_impl_copyDev_8, Bool.cond_eq_ite, decide_eq_true_eq, if_neg hi]
theorem impl_copyDev_eq (s : List E_s_u8) (c : List E_Wr) (z : Int) (b : Bool) (h : smallD s c) : F_impl_copyDev (s, c, z, b) = some (s, c, z, b) := by
 unfold F_impl_copyDev
 rw [impl_copy3 _ _ s c z b h]
 cases s with
 | nil =>
  rw [if_pos (show List.length ([] : List E_s_u8) = 0 from rfl)]
  simp only [impl_copy8a _ _ _ _ c z b h.2.1 h.2.2.2]
  cases c with
  | nil => rfl
  | cons w c => rw [if_neg (show ¬ List.length (w :: c) = 0 from by simp)]
 | cons a s =>
  rw [if_neg (show ¬ List.length (a :: s) = 0 from by simp)]
  simp only [impl_copy8b _ _ _ _ _ c z b h.2.1 h.2.2.2]
  cases c with
  | nil => rfl
  | cons w c => rw [if_neg (show ¬ List.length (w :: c) = 0 from by simp)]
def devP (s : List E_s_u8) (c : List E_Wr) (z : Int) : Prop := (∀ a ∈ s, List.length a ≤ 80) ∧ (∀ w ∈ c, 0 ≤ w.1 ∧ w.1 ≤ (s.length : Int) - 1 ∧ List.length w.2 ≤ 80) ∧ 1 ≤ s.length ∧ s.length ≤ 60 ∧ c.length ≤ 60 ∧ -1 ≤ z ∧ z ≤ 1000
theorem anyE_all {A : Type} (p : Int → A → Bool) (hp : ∀ i j a, p i a = p j a) : ∀ (l : List A) (i : Int), anyE p l i = false ↔ ∀ a ∈ l, p 0 a = false
 | [], i => by simp [anyE]
 | b :: l, i => by
  rw [anyE, Bool.or_eq_false_iff, anyE_all p hp l (i + 1), hp i 0 b]
  simp
theorem devK_iff (s : List E_s_u8) (c : List E_Wr) (z : Int) : devK s c z = true ↔ devP s c z := by
 unfold devK devP
 simp only [Bool.and_eq_true, Bool.not_eq_true', inR_iff, decide_eq_true_eq]
 rw [anyE_all bigB (fun _ _ _ => rfl), anyE_all (badW s.length) (fun _ _ _ => rfl)]
 constructor
 ·rintro ⟨h1, h2, ⟨h3, h4⟩, h5⟩
  refine ⟨fun a ha => ?_, fun w hw => ?_, by omega, by omega, by omega, by omega, by omega⟩
  ·have := of_decide_eq_false (h1 a ha)
   omega
  ·have h := h2 w hw
   unfold badW at h
   rw [Bool.or_eq_false_iff, Bool.not_eq_false', inR_iff] at h
   have := of_decide_eq_false h.2
   exact ⟨h.1.1, h.1.2, by omega⟩
 ·rintro ⟨h1, h2, h3, h4, h5, h6, h7⟩
  refine ⟨fun a ha => decide_eq_false (by have := h1 a ha; omega), fun w hw => ?_, ⟨⟨by omega, by omega⟩, by omega⟩, by omega, by omega⟩
  have h := h2 w hw
  unfold badW
  rw [Bool.or_eq_false_iff, Bool.not_eq_false', inR_iff]
  exact ⟨⟨h.1, h.2.1⟩, decide_eq_false (by omega)⟩
theorem sumW_le {A : Type} (w : A → Int) (m : Int) : ∀ (l : List A), (∀ a ∈ l, w a ≤ m) → sumW w l ≤ m * l.length
 | [], _ => by simp [sumW]
 | a :: l, h => by
  have h1 := sumW_le w m l fun b hb => h b (by simp [hb])
  have h2 := h a (by simp)
  rw [sumW_cons, List.length_cons]
  have e : m * ((l.length + 1 : Nat) : Int) = m * l.length + m := by
   rw [Int.natCast_add, Int.mul_add]
   simp
  omega
theorem devP_small {s : List E_s_u8} {c : List E_Wr} {z : Int} (h : devP s c z) : smallD s c := by
 obtain ⟨h1, h2, h3, h4, h5, h6, h7⟩ := h
 have e1 := sumW_le lenB 80 s fun a ha => by
  have := h1 a ha
  show (List.length a : Int) ≤ 80
  omega
 have e2 := sumW_le lenW 80 c fun w hw => by
  have := (h2 w hw).2.2
  show (List.length w.2 : Int) ≤ 80
  omega
 exact ⟨by omega, by omega, by omega, by omega⟩
def wrK (s : List E_s_u8) (t : List E_Wr × Int × Bool) (n : Int) (p : List Int) : List E_Wr × Int × Bool :=
 if t.2.2 = true then t else if inR n 0 ((s.length : Int) - 1) = false then t else if (p.length : Int) > 80 then t else if (t.1.length : Int) ≥ 60 then t
 else if t.2.1 = 0 then (t.1, -1, true) else (t.1 ++ [(n, p)], if t.2.1 > 0 then t.2.1 - 1 else t.2.1, t.2.2)
theorem wrK_ok (s : List E_s_u8) (c : List E_Wr) (z : Int) (b : Bool) (n : Int) (p : List Int) (h : devP s c z) : devP s (wrK s (c, z, b) n p).1 (wrK s (c, z, b) n p).2.1 := by
 unfold wrK
 cases b with
 | true => exact h
 | false =>
  rw [if_neg (by simp)]
  cases hin : inR n 0 ((s.length : Int) - 1) with
  | false => exact h
  | true =>
   rw [if_neg (by simp)]
   by_cases a1 : (p.length : Int) > 80
   ·rw [if_pos a1]
    exact h
   ·rw [if_neg a1]
    by_cases a2 : (c.length : Int) ≥ 60
    ·rw [if_pos a2]
     exact h
    ·rw [if_neg a2]
     obtain ⟨h1, h2, h3, h4, h5, h6, h7⟩ := h
     by_cases a3 : z = 0
     ·rw [if_pos a3]
      exact ⟨h1, h2, h3, h4, h5, by simp, by simp⟩
     ·rw [if_neg a3]
      have hn := inR_iff.1 hin
      refine ⟨h1, ?_, h3, h4, ?_, ?_, ?_⟩
      ·intro w hw
       simp only [List.mem_append, List.mem_singleton] at hw
       rcases hw with hw | rfl
       ·exact h2 w hw
       ·exact ⟨hn.1, hn.2, by simp only; omega⟩
      ·simp only [List.length_append, List.length_cons, List.length_nil]
       omega
      ·simp only
       split <;> omega
      ·simp only
       split <;> omega
def partE (p : List Int) (i : Int) : Int := if (p.length : Int) < (i + 1) * 70 then p.length else (i + 1) * 70
def partL (p : List Int) (i : Int) : List Int := List.drop (i * 70).toNat (List.take (partE p i).toNat p)
def imgK (s : List E_s_u8) (side : Int) (p : List Int) : Nat → Int → List E_Wr × Int × Bool → List E_Wr × Int × Bool
 | 0, _, t => t
 | m + 1, i, t => if i * 70 < (p.length : Int) then imgK s side p m (i + 1) (wrK s t (8 + side * 24 + i) (partL p i)) else t
theorem imgK_end (s : List E_s_u8) (side : Int) (p : List Int) (m : Nat) (i : Int) (t : List E_Wr × Int × Bool) (h : ¬ i * 70 < (p.length : Int)) : imgK s side p m i t = t := by
 cases m with
 | zero => rfl
 | succ m => rw [imgK, if_neg h]
theorem imgK_ok (s : List E_s_u8) (side : Int) (p : List Int) : ∀ (m : Nat) (i : Int) (t : List E_Wr × Int × Bool), devP s t.1 t.2.1 → devP s (imgK s side p m i t).1 (imgK s side p m i t).2.1
 | 0, _, _, h => h
 | m + 1, i, t, h => by
  rw [imgK]
  split
  ·exact imgK_ok s side p m (i + 1) _ (wrK_ok s t.1 t.2.1 t.2.2 _ _ h)
  ·exact h
def writeK (s : List E_s_u8) (c : List E_Wr) (z : Int) (b : Bool) (side : Int) (p : List Int) : List E_s_u8 × List E_Wr × Int × Bool := if (devK s c z && (inR side 0 1 && decide ((p.length : Int) ≤ 1680))) = true then (s, imgK s side p 24 0 (c, z, b)) else (s, c, z, b)
theorem writeK_small (s : List E_s_u8) (c : List E_Wr) (z : Int) (b : Bool) (side : Int) (p : List Int) (h : smallD s c) : smallD (writeK s c z b side p).1 (writeK s c z b side p).2.1 := by
 unfold writeK
 split
 ·rename_i hc
  rw [Bool.and_eq_true] at hc
  exact devP_small (imgK_ok s side p 24 0 (c, z, b) ((devK_iff s c z).1 hc.1))
 ·exact h
end Go.Proofs.YtmapoakbdgpamaaGreat.Pl
namespace Go.Proofs.YtmapoakbdgpamaaGreat.Pl
open Go.Proofs.YtmapoakbdgpamaaGreat.R Go.Proofs.YtmapoakbdgpamaaGreat.XM
theorem fold2_loop {T A S R : Type} {step : (T → Option R) → T → Option R} (da : A) (g : S → A → S) (l : List A) (St0 St1 : Int → S → T) (k : S → Option R) (I : S → Prop) (hl : l.length ≤ 1099511627776)
  (h0 : ∀ again i s, 0 ≤ i → i < ((List.length l : Nat) : Int) → I s → step again (St0 i s) = again (St1 (i + 1) (g s (l.getD i.toNat da))))
  (h1 : ∀ again i s, 0 ≤ i → i < ((List.length l : Nat) : Int) → I s → step again (St1 i s) = again (St1 (i + 1) (g s (l.getD i.toNat da))))
  (hI : ∀ s a, I s → a ∈ l → I (g s a))
  (hd0 : ∀ again i s, ¬ i < ((List.length l : Nat) : Int) → step again (St0 i s) = k s) (hd1 : ∀ again i s, ¬ i < ((List.length l : Nat) : Int) → step again (St1 i s) = k s) (s : S) (hs : I s) : iter step FUEL (St0 0 s) = k (l.foldl g s) := by
 have key : ∀ (n : Nat) (i : Int) (s : S), 0 ≤ i → i ≤ l.length → I s → l.length - i.toNat < n → iter step n (St1 i s) = k ((l.drop i.toNat).foldl g s) := by
  intro n
  induction n with
  | zero => intro i s _ _ _ hn; omega
  | succ n ih =>
   intro i s i0 i1 hs hn
   rw [iter]
   by_cases hi : i < ((List.length l : Nat) : Int)
   ·rw [h1 _ i s i0 hi hs, ih (i + 1) _ (by omega) (by omega) (hI s _ hs (getD_mem da l i i0 hi)) (by omega), drop_getD da l i i0 hi, List.foldl_cons]
   ·rw [hd1 _ i s hi, List.drop_of_length_le (by omega)]
    rfl
 have hF : FUEL = (FUEL - 1) + 1 := by
  have := FUEL_eq
  omega
 rw [hF, iter]
 by_cases h : (0 : Int) < ((List.length l : Nat) : Int)
 ·rw [h0 _ 0 s (Int.le_refl _) h hs, key _ _ _ (by omega) (by omega) (hI s _ hs (getD_mem da l 0 (Int.le_refl _) h)) (by
   have := FUEL_eq
   omega)]
  congr 1
  have := drop_getD da l 0 (Int.le_refl _) h
  rw [show l.drop (0 : Int).toNat = l from rfl] at this
  conv => rhs; rw [this, List.foldl_cons]
 ·rw [hd0 _ 0 s h]
  have : l = [] := List.length_eq_zero_iff.1 (by omega)
  subst this
  rfl
def putOne (s : List E_s_u8) (w : E_Wr) : List E_s_u8 := s.set w.1.toNat w.2
def flK (s : List E_s_u8) (c : List E_Wr) (z : Int) (b : Bool) : List E_s_u8 × List E_Wr × Int × Bool :=
 if b = true then (s, c, z, b) else if z = 0 then (s, c, -1, true) else (c.foldl putOne s, [], if z > 0 then z - 1 else z, b)
theorem fold_put (P : E_s_u8 → Prop) : ∀ (c : List E_Wr) (s : List E_s_u8), (∀ a ∈ s, P a) → (∀ w ∈ c, P w.2) → (∀ a ∈ c.foldl putOne s, P a) ∧ (c.foldl putOne s).length = s.length
 | [], s, hs, _ => ⟨hs, rfl⟩
 | w :: c, s, hs, hc => by
  have ih := fold_put P c (putOne s w) (fun a ha => (List.mem_or_eq_of_mem_set ha).elim (hs a) fun e => e ▸ hc w (by simp)) (fun v hv => hc v (by simp [hv]))
  rw [List.foldl_cons]
  exact ⟨ih.1, ih.2.trans (by simp [putOne])⟩
theorem flK_ok (s : List E_s_u8) (c : List E_Wr) (z : Int) (b : Bool) (h : devP s c z) : devP (flK s c z b).1 (flK s c z b).2.1 (flK s c z b).2.2.1 := by
 unfold flK
 split
 ·exact h
 ·obtain ⟨h1, h2, h3, h4, h5, h6, h7⟩ := h
  split
  ·exact ⟨h1, h2, h3, h4, h5, by simp, by simp⟩
  ·have hp := fold_put (fun a => List.length a ≤ 80) c s h1 (fun w hw => (h2 w hw).2.2)
   refine ⟨hp.1, by simp, ?_, ?_, by simp, ?_, ?_⟩
   ·simp only [hp.2]
    exact h3
   ·simp only [hp.2]
    exact h4
   ·simp only
    split <;> omega
   ·simp only
    split <;> omega
theorem flK_len (s : List E_s_u8) (c : List E_Wr) (z : Int) (b : Bool) (h : devP s c z) : (flK s c z b).1.length = s.length := by
 unfold flK
 split
 ·rfl
 ·split
  ·rfl
  ·exact (fold_put (fun _ => True) c s (fun _ _ => trivial) (fun _ _ => trivial)).2
theorem impl_FlushDev_eq (s : List E_s_u8) (c : List E_Wr) (z : Int) (b : Bool) (h : devP s c z) : F_impl_FlushDev (s, c, z, b) = some (flK s c z b) := by
 have hsm := devP_small h
 have hk := (devK_iff s c z).2 h
 obtain ⟨h1, h2, h3, h4, h5, h6, h7⟩ := h
 have hw2 : Go.IntKind.wrap .i64 (z - 1) = z - 1 := w64 (by omega) (by omega)
 have hloop : ∀ z' : Int, L_impl_FlushDev_8 (fun x7 => some (x7.2.2.2.2.1, ([] : List E_Wr), x7.2.2.1, x7.2.2.2.1)) (fun x8 => some (x8.2.2.2.2.2, ([] : List E_Wr), x8.2.2.2.1, x8.2.2.2.2.1)) (Sum.inl (((List.length c : Nat) : Int), (0 : Int), (0 : Int), false, z', false, c, s)) = some (c.foldl putOne s, ([] : List E_Wr), z', false) := by
  intro z'
  unfold L_impl_FlushDev_8
  refine fold2_loop (step := S_impl_FlushDev_8 _ _) z_Wr putOne c (fun i s' => Sum.inl (((List.length c : Nat) : Int), i, (0 : Int), false, z', false, c, s')) (fun i s' => Sum.inr (c, ((List.length c : Nat) : Int), i, (0 : Int), false, c, z', false, s')) (fun s' => some (s', ([] : List E_Wr), z', false)) (fun s' => s'.length = s.length) (by omega) ?_ ?_ ?_ ?_ ?_ s rfl
  ·intro again i s' i0 i1 hl
   have hw : Go.IntKind.wrap .i64 (i + 1) = i + 1 := w64 (by omega) (by omega)
   have hr := rd_w_small hsm.2.2.2 i0 i1
   have hn := h2 _ (getD_mem z_Wr c i i0 i1)
   have hn1 : (rd_Wr c i).1 < ((List.length s' : Nat) : Int) := by
    have : (rd_Wr c i).1 ≤ (s.length : Int) - 1 := hn.2.1
    omega
   have hn0 : 0 ≤ (rd_Wr c i).1 := hn.1
   simp only [S_impl_FlushDev_8, Bool.cond_eq_ite, decide_eq_true_eq, i0, i1, if_true, hw, joinedOne (rd_Wr c i).2 (by omega), Option.bind_some, hn0, hn1]
   rfl
  ·intro again i s' i0 i1 hl
   have hw : Go.IntKind.wrap .i64 (i + 1) = i + 1 := w64 (by omega) (by omega)
   have hr := rd_w_small hsm.2.2.2 i0 i1
   have hn := h2 _ (getD_mem z_Wr c i i0 i1)
   have hn1 : (rd_Wr c i).1 < ((List.length s' : Nat) : Int) := by
    have : (rd_Wr c i).1 ≤ (s.length : Int) - 1 := hn.2.1
    omega
   have hn0 : 0 ≤ (rd_Wr c i).1 := hn.1
   simp only [S_impl_FlushDev_8, Bool.cond_eq_ite, decide_eq_true_eq, i0, i1, if_true, hw, joinedOne (rd_Wr c i).2 (by omega), Option.bind_some, hn0, hn1]
   rfl
  ·intro s' a hs' _
   simp only [putOne, List.length_set]
   exact hs'
  ·intro again i s' hi
   simp only [S_impl_FlushDev_8, Bool.cond_eq_ite, decide_eq_true_eq, if_neg hi]
  ·intro again i s' hi
   simp only [S_impl_FlushDev_8, Bool.cond_eq_ite, decide_eq_true_eq, if_neg hi]
 unfold F_impl_FlushDev flK
 simp only [impl_copyDev_eq s c z b hsm, impl_DevOk_eq s c z b (by omega) (by omega), hk, Option.bind_some, Bool.not_true, cond_false]
 cases b with
 | true => rfl
 | false =>
  rw [if_neg (show ¬ (false = true) by simp)]
  simp only [cond_false]
  unfold F_impl_burn
  by_cases a3 : z = 0
  ·subst a3
   rfl
  ·rw [if_neg a3]
   simp only [show (z == 0) = false from by simpa using a3, cond_false]
   by_cases a4 : z > 0
   ·rw [if_pos a4]
    simp only [decide_eq_true a4, cond_true, Option.bind_some, Bool.not_true, cond_false, hw2]
    exact hloop (z - 1)
   ·rw [if_neg a4]
    simp only [decide_eq_false a4, cond_false, Option.bind_some, Bool.not_true]
    exact hloop z
section
variable (q : List E_i64) (t : List E_Node) (l : List E_Age) (cs : List E_Cell) (vs : List E_Vol) (nx gen bs sq : Int)
abbrev ST : Type := List E_s_u8 × List E_Wr × Int × Bool × List E_i64 × List E_Node × List E_Age × List E_Cell × List E_Vol × Int × Int × Int × Int
def withD (d : List E_s_u8 × List E_Wr × Int × Bool) : ST := (d.1, d.2.1, d.2.2.1, d.2.2.2, q, t, l, cs, vs, nx, gen, bs, sq)
theorem spec_flush13 (s : List E_s_u8) (c : List E_Wr) (z : Int) (b : Bool) (h : devP s c z) : F_spec_l2Flush_b13_0 (s, c, z, b, q, t, l, cs, vs, nx, gen, bs, sq) = some (withD q t l cs vs nx gen bs sq (flK s c z b)) := by
 have hsm := devP_small h
 obtain ⟨h1, h2, h3, h4, h5, h6, h7⟩ := h
 have hw2 : Go.IntKind.wrap .i64 (z - 1) = z - 1 := w64 (by omega) (by omega)
 have hloop : ∀ z' : Int, L_spec_l2Flush_b13_0_2 (fun x2 => some (x2.2.2.2.2.2.2.1, ([] : List E_Wr), x2.1, x2.2.1, x2.2.2.2.2.2.2.2.2.1, x2.2.2.2.2.2.2.2.2.2.1, x2.2.2.2.2.2.2.2.2.2.2.1, x2.2.2.2.2.2.2.2.2.2.2.2.1, x2.2.2.2.2.2.2.2.2.2.2.2.2, x2.2.2.1, x2.2.2.2.1, x2.2.2.2.2.1, x2.2.2.2.2.2.1)) ((0 : Int), z', false, nx, gen, bs, sq, s, c, q, t, l, cs, vs) = some (c.foldl putOne s, ([] : List E_Wr), z', false, q, t, l, cs, vs, nx, gen, bs, sq) := by
  intro z'
  unfold L_spec_l2Flush_b13_0_2
  refine fold2_loop (step := S_spec_l2Flush_b13_0_2 _) z_Wr putOne c (fun i s' => (i, z', false, nx, gen, bs, sq, s', c, q, t, l, cs, vs)) (fun i s' => (i, z', false, nx, gen, bs, sq, s', c, q, t, l, cs, vs)) (fun s' => some (s', ([] : List E_Wr), z', false, q, t, l, cs, vs, nx, gen, bs, sq)) (fun s' => s'.length = s.length) (by omega) ?_ ?_ ?_ ?_ ?_ s rfl
  ·intro again i s' i0 i1 hl
   have hw : Go.IntKind.wrap .i64 (i + 1) = i + 1 := w64 (by omega) (by omega)
   have hn := h2 _ (getD_mem z_Wr c i i0 i1)
   have hn1 : (rd_Wr c i).1 < ((List.length s' : Nat) : Int) := by
    have : (rd_Wr c i).1 ≤ (s.length : Int) - 1 := hn.2.1
    omega
   have hn0 : 0 ≤ (rd_Wr c i).1 := hn.1
   unfold S_spec_l2Flush_b13_0_2
   simp only [Bool.cond_eq_ite, decide_eq_true_eq, i0, i1, if_true, hw, hn0, hn1]
   rfl
  ·intro again i s' i0 i1 hl
   have hw : Go.IntKind.wrap .i64 (i + 1) = i + 1 := w64 (by omega) (by omega)
   have hn := h2 _ (getD_mem z_Wr c i i0 i1)
   have hn1 : (rd_Wr c i).1 < ((List.length s' : Nat) : Int) := by
    have : (rd_Wr c i).1 ≤ (s.length : Int) - 1 := hn.2.1
    omega
   have hn0 : 0 ≤ (rd_Wr c i).1 := hn.1
   unfold S_spec_l2Flush_b13_0_2
   simp only [Bool.cond_eq_ite, decide_eq_true_eq, i0, i1, if_true, hw, hn0, hn1]
   rfl
  ·intro s' a hs' _
   simp only [putOne, List.length_set]
   exact hs'
  ·intro again i s' hi
   unfold S_spec_l2Flush_b13_0_2
   simp only [Bool.cond_eq_ite, decide_eq_true_eq, if_neg hi]
  ·intro again i s' hi
   unfold S_spec_l2Flush_b13_0_2
   simp only [Bool.cond_eq_ite, decide_eq_true_eq, if_neg hi]
 unfold F_spec_l2Flush_b13_0 flK withD
 cases b with
 | true => rfl
 | false =>
  rw [if_neg (show ¬ (false = true) by simp)]
  simp only [cond_false]
  unfold F_spec_l2Op_b13_0
  by_cases a3 : z = 0
  ·subst a3
   rfl
  ·rw [if_neg a3]
   simp only [show (z == 0) = false from by simpa using a3, cond_false]
   by_cases a4 : z > 0
   ·rw [if_pos a4]
    simp only [decide_eq_true a4, cond_true, Option.bind_some, Bool.not_true, cond_false, hw2]
    exact hloop (z - 1)
   ·rw [if_neg a4]
    simp only [decide_eq_false a4, cond_false, Option.bind_some, Bool.not_true]
    exact hloop z
end
end Go.Proofs.YtmapoakbdgpamaaGreat.Pl
namespace Go.Proofs.YtmapoakbdgpamaaGreat.Pl
open Go.Proofs.YtmapoakbdgpamaaGreat.R Go.Proofs.YtmapoakbdgpamaaGreat.XM
def nodeQ (n : E_Node) : Prop := List.length n ≤ 1048576 ∧ ∀ b ∈ (show List E_s_Key from n), List.length b ≤ 1048576
theorem spec_l5Copy_eq (n : List E_s_Key) (h : nodeQ n) : F_spec_l5Copy n = some n := by
 have h1 : n.length ≤ 1048576 := h.1
 have e : F_spec_l5Copy n = if n.length = 0 then some ([] : List E_s_Key) else some n := by
  unfold F_spec_l5Copy L_spec_l5Copy_3
  refine app_loop (step := S_spec_l5Copy_3 _ _) z_s_Key n (fun i => Sum.inl (i, n)) (fun i o => Sum.inr (i, n, o)) _ (fun o => some o) (by omega) ?_ ?_ ?_ ?_
  ·intro again i i0 i1
   have hw : Go.IntKind.wrap .i64 (i + 1) = i + 1 := w64 (by omega) (by omega)
   have hr : List.length (rd_s_Key n i) ≤ 1048576 := h.2 _ (getD_mem z_s_Key n i i0 i1)
   simp only [S_spec_l5Copy_3, Bool.cond_eq_ite, decide_eq_true_eq, i0, i1, if_true, hw]
   rw [if_pos (by simp only [List.length_nil]; omega), if_pos (len1 _ _ (by decide))]
   rfl
  ·intro again i o i0 i1 i2
   have hw : Go.IntKind.wrap .i64 (i + 1) = i + 1 := w64 (by omega) (by omega)
   have hr : List.length (rd_s_Key n i) ≤ 1048576 := h.2 _ (getD_mem z_s_Key n i i0 i1)
   simp only [S_spec_l5Copy_3, Bool.cond_eq_ite, decide_eq_true_eq, i0, i1, if_true, hw]
   rw [if_pos (by simp only [List.length_nil]; omega), if_pos (by simp only [List.length_cons, List.length_nil]; omega)]
   rfl
  ·intro again i hi
   simp only [S_spec_l5Copy_3, Bool.cond_eq_ite, decide_eq_true_eq, if_neg hi]
  ·intro again i o hi
   simp only [S_spec_l5Copy_3, Bool.cond_eq_ite, decide_eq_true_eq, if_neg hi]
 rw [e]
 split
 ·rename_i h0
  rw [List.length_eq_zero_iff.1 h0]
 ·rfl
theorem impl_copyKeys_eq (l : List E_Key) (h : l.length ≤ 1048576) : F_impl_copyKeys l = some l := by
 unfold F_impl_copyKeys
 rw [if_pos (by simp only [List.length_nil]; omega)]
 rfl
theorem impl_copyNode_eq (n : List E_s_Key) (h : nodeQ n) : F_impl_copyNode n = some n := by
 have h1 : n.length ≤ 1048576 := h.1
 have e : F_impl_copyNode n = if n.length = 0 then some ([] : List E_s_Key) else some n := by
  unfold F_impl_copyNode L_impl_copyNode_3
  refine app_loop (step := S_impl_copyNode_3 _ _) z_s_Key n (fun i => Sum.inl (n, ((List.length n : Nat) : Int), i)) (fun i o => Sum.inr (n, ((List.length n : Nat) : Int), i, o)) _ (fun o => some o) (by omega) ?_ ?_ ?_ ?_
  ·intro again i i0 i1
   have hw : Go.IntKind.wrap .i64 (i + 1) = i + 1 := w64 (by omega) (by omega)
   have hr : List.length (rd_s_Key n i) ≤ 1048576 := h.2 _ (getD_mem z_s_Key n i i0 i1)
   simp only [S_impl_copyNode_3, Bool.cond_eq_ite, decide_eq_true_eq, i0, i1, if_true, hw, impl_copyKeys_eq _ hr, Option.bind_some]
   rw [if_pos (len1 _ _ (by decide))]
   rfl
  ·intro again i o i0 i1 i2
   have hw : Go.IntKind.wrap .i64 (i + 1) = i + 1 := w64 (by omega) (by omega)
   have hr : List.length (rd_s_Key n i) ≤ 1048576 := h.2 _ (getD_mem z_s_Key n i i0 i1)
   simp only [S_impl_copyNode_3, Bool.cond_eq_ite, decide_eq_true_eq, i0, i1, if_true, hw, impl_copyKeys_eq _ hr, Option.bind_some]
   rw [if_pos (by simp only [List.length_cons, List.length_nil]; omega)]
   rfl
  ·intro again i hi
   simp only [S_impl_copyNode_3, Bool.cond_eq_ite, decide_eq_true_eq, if_neg hi]
  ·intro again i o hi
   simp only [S_impl_copyNode_3, Bool.cond_eq_ite, decide_eq_true_eq, if_neg hi]
 rw [e]
 split
 ·rename_i h0
  rw [List.length_eq_zero_iff.1 h0]
 ·rfl
theorem spec_l6Copy_eq (q : List E_i64) (t : List E_Node) (hq : q.length ≤ 1048576) (ht : t.length ≤ 1048576) (hn : ∀ n ∈ t, nodeQ n) : F_spec_l6Copy (q, t) = some (q, t) := by
 have e : F_spec_l6Copy (q, t) = if t.length = 0 then some (q, ([] : List E_Node)) else some (q, t) := by
  unfold F_spec_l6Copy L_spec_l6Copy_3
  simp only [List.length_nil, List.nil_append]
  rw [if_pos (by omega)]
  refine app_loop (step := S_spec_l6Copy_3 _ _) z_Node t (fun i => Sum.inl (i, q, t, q)) (fun i o => Sum.inr (i, q, t, q, o)) _ (fun o => some (q, o)) (by omega) ?_ ?_ ?_ ?_
  ·intro again i i0 i1
   have hw : Go.IntKind.wrap .i64 (i + 1) = i + 1 := w64 (by omega) (by omega)
   have hr : nodeQ (rd_Node t i) := hn _ (getD_mem z_Node t i i0 i1)
   simp only [S_spec_l6Copy_3, Bool.cond_eq_ite, decide_eq_true_eq, i0, i1, if_true, hw, spec_l5Copy_eq _ hr, Option.bind_some]
   rw [if_pos (len1 _ _ (by decide))]
   rfl
  ·intro again i o i0 i1 i2
   have hw : Go.IntKind.wrap .i64 (i + 1) = i + 1 := w64 (by omega) (by omega)
   have hr : nodeQ (rd_Node t i) := hn _ (getD_mem z_Node t i i0 i1)
   simp only [S_spec_l6Copy_3, Bool.cond_eq_ite, decide_eq_true_eq, i0, i1, if_true, hw, spec_l5Copy_eq _ hr, Option.bind_some]
   rw [if_pos (by simp only [List.length_cons, List.length_nil]; omega)]
   rfl
  ·intro again i hi
   simp only [S_spec_l6Copy_3, Bool.cond_eq_ite, decide_eq_true_eq, if_neg hi]
  ·intro again i o hi
   simp only [S_spec_l6Copy_3, Bool.cond_eq_ite, decide_eq_true_eq, if_neg hi]
 rw [e]
 split
 ·rename_i h0
  rw [List.length_eq_zero_iff.1 h0]
 ·rfl
theorem impl_copyInts_eq (l : List E_i64) (h : l.length ≤ 1048576) : F_impl_copyInts l = some l := by
 unfold F_impl_copyInts
 rw [if_pos (by simp only [List.length_nil]; omega)]
 rfl
theorem impl_copyTree_eq (q : List E_i64) (t : List E_Node) (hq : q.length ≤ 1048576) (ht : t.length ≤ 1048576) (hn : ∀ n ∈ t, nodeQ n) : F_impl_copyTree (q, t) = some (q, t) := by
 have e : F_impl_copyTree (q, t) = if t.length = 0 then some (q, ([] : List E_Node)) else some (q, t) := by
  unfold F_impl_copyTree L_impl_copyTree_3
  simp only [impl_copyInts_eq q hq, Option.bind_some]
  refine app_loop (step := S_impl_copyTree_3 _ _) z_Node t (fun i => Sum.inl (t, ((List.length t : Nat) : Int), i, q)) (fun i o => Sum.inr (t, ((List.length t : Nat) : Int), i, q, o)) _ (fun o => some (q, o)) (by omega) ?_ ?_ ?_ ?_
  ·intro again i i0 i1
   have hw : Go.IntKind.wrap .i64 (i + 1) = i + 1 := w64 (by omega) (by omega)
   have hr : nodeQ (rd_Node t i) := hn _ (getD_mem z_Node t i i0 i1)
   simp only [S_impl_copyTree_3, Bool.cond_eq_ite, decide_eq_true_eq, i0, i1, if_true, hw, impl_copyNode_eq _ hr, Option.bind_some]
   rw [if_pos (len1 _ _ (by decide))]
   rfl
  ·intro again i o i0 i1 i2
   have hw : Go.IntKind.wrap .i64 (i + 1) = i + 1 := w64 (by omega) (by omega)
   have hr : nodeQ (rd_Node t i) := hn _ (getD_mem z_Node t i i0 i1)
   simp only [S_impl_copyTree_3, Bool.cond_eq_ite, decide_eq_true_eq, i0, i1, if_true, hw, impl_copyNode_eq _ hr, Option.bind_some]
   rw [if_pos (by simp only [List.length_cons, List.length_nil]; omega)]
   rfl
  ·intro again i hi
   simp only [S_impl_copyTree_3, Bool.cond_eq_ite, decide_eq_true_eq, if_neg hi]
  ·intro again i o hi
   simp only [S_impl_copyTree_3, Bool.cond_eq_ite, decide_eq_true_eq, if_neg hi]
 rw [e]
 split
 ·rename_i h0
  rw [List.length_eq_zero_iff.1 h0]
 ·rfl
theorem spec_l10Copy_eq (q : List E_i64) (t : List E_Node) (l : List E_Age) (cs : List E_Cell) (vs : List E_Vol) (z : Int) (h : small q t l cs vs) : F_spec_l10Copy (q, t, l, cs, vs, z) = some (q, t, l, cs, vs, z) := by
 obtain ⟨h1, h2, h3, h4, h5, h6⟩ := h
 unfold F_spec_l10Copy F_spec_l9Copy
 simp only [spec_l6Copy_eq q t h1 h2 (fun n hn => node_small h3 hn), Option.bind_some, List.length_nil, List.nil_append]
 rw [if_pos (by omega), if_pos (by omega)]
 simp only [Option.bind_some]
 rw [if_pos (by omega)]
theorem impl_copyPool_eq (q : List E_i64) (t : List E_Node) (l : List E_Age) (cs : List E_Cell) (vs : List E_Vol) (z : Int) (h : small q t l cs vs) : F_impl_copyPool (q, t, l, cs, vs, z) = some (q, t, l, cs, vs, z) := by
 obtain ⟨h1, h2, h3, h4, h5, h6⟩ := h
 unfold F_impl_copyPool F_impl_copyAges F_impl_copyCells
 simp only [impl_copyTree_eq q t h1 h2 (fun n hn => node_small h3 hn), Option.bind_some, List.length_nil, List.nil_append]
 rw [if_pos (by omega)]
 simp only [Option.bind_some]
 rw [if_pos (by omega)]
 simp only [Option.bind_some]
 rw [if_pos (by omega)]
end Go.Proofs.YtmapoakbdgpamaaGreat.Pl
namespace Go.Proofs.YtmapoakbdgpamaaGreat.Pl
open Go.Proofs.YtmapoakbdgpamaaGreat.R Go.Proofs.YtmapoakbdgpamaaGreat.XM
theorem sumW_const {A : Type} (m : Int) : ∀ (l : List A), sumW (fun _ => m) l = m * l.length
 | [] => by simp [sumW]
 | a :: l => by
  rw [sumW_cons, sumW_const m l, List.length_cons]
  rw [show ((l.length + 1 : Nat) : Int) = (l.length : Int) + 1 from by omega, Int.mul_add]
  omega
theorem sum_le {A : Type} (w v : A → Int) (m : Int) (h : ∀ a, w a ≤ m * v a) : ∀ (l : List A), sumW w l ≤ m * sumW v l
 | [] => by simp [sumW]
 | a :: l => by
  have := sum_le w v m h l
  have := h a
  rw [sumW_cons, sumW_cons, Int.mul_add]
  omega
noncomputable def mkIntS (_ : E_i64) (k : Int) : E_i64 := k
theorem markIntS_eq (l : List E_i64) (k : Int) (h0 : 0 ≤ k) (hl : l.length ≤ 1048576) (hk : k + 1 * l.length ≤ bigN) : F_laws_markIntS (l, k) = some (k + sumW (fun _ : E_i64 => (1 : Int)) l, marksL mkIntS (fun _ => 1) l k) := by
 unfold F_laws_markIntS L_laws_markIntS_2
 refine mark_loop (step := S_laws_markIntS_2 (fun x1 => some (x1.1, x1.2))) z_i64 mkIntS (fun _ => 1) (fun _ => by omega) (fun _ => True) (fun x2 => some (x2.1, x2.2)) bigN ?_ ?_ l k h0 (by omega) (by rw [sumW_const]; exact hk) (fun _ _ => trivial)
 ·intro again k i l h0 h1 hk hM hl _
  unfold bigN at hM
  have hr : ∀ v : E_i64, rd_i64 (l.set i.toNat v) i = v := fun v => set_rd z_i64 l i v h0 h1
  have wi := add1 i (by omega) (by omega)
  have w1 := add1 k (by omega) (by omega)
  unfold S_laws_markIntS_2 mkIntS
  simp only [Bool.cond_eq_ite, decide_eq_true_eq, h0, h1, if_true, wi, w1, hr, List.length_set, List.set_set]
 ·intro again k i l hi
  unfold S_laws_markIntS_2
  simp only [Bool.cond_eq_ite, decide_eq_true_eq, if_neg hi]
theorem heldIntS_eq (l : List E_i64) (k : Int) (h0 : 0 ≤ k) (hl : l.length ≤ 1048576) (hk : k + 1 * l.length ≤ bigN) : F_laws_heldIntS (marksL mkIntS (fun _ => 1) l k, k) = some (k + sumW (fun _ : E_i64 => (1 : Int)) l) := by
 unfold F_laws_heldIntS L_laws_heldIntS_2
 refine held_loop (step := S_laws_heldIntS_2 (fun x1 => some x1.2) (fun x2 => some x2)) z_i64 mkIntS (fun _ => 1) (fun _ => by omega) (fun x2 => some x2) bigN ?_ ?_ l k h0 (by omega) (by rw [sumW_const]; exact hk)
 ·intro again l k i a h0 h1 hk hM hl he
  unfold bigN at hM
  have hr : rd_i64 l i = k := he
  have wi := add1 i (by omega) (by omega)
  have w1 := add1 k (by omega) (by omega)
  unfold S_laws_heldIntS_2
  simp only [Bool.cond_eq_ite, decide_eq_true_eq, h0, h1, if_true, wi, w1, hr, bne_self_eq_false, beq_self_eq_true, Bool.not_true, Bool.false_eq_true, if_false]
 ·intro again l k i hi
  unfold S_laws_heldIntS_2
  simp only [Bool.cond_eq_ite, decide_eq_true_eq, if_neg hi]
noncomputable def mkKeyS (_ : E_Key) (k : Int) : E_Key := (k, k + 1, k + 2, k + 3, k + 4)
theorem markKeyS_eq (l : List E_Key) (k : Int) (h0 : 0 ≤ k) (hl : l.length ≤ 1048576) (hk : k + 5 * l.length ≤ bigN) : F_laws_markKeyS (l, k) = some (k + sumW (fun _ : E_Key => (5 : Int)) l, marksL mkKeyS (fun _ => 5) l k) := by
 unfold F_laws_markKeyS L_laws_markKeyS_2
 refine mark_loop (step := S_laws_markKeyS_2 (fun x3 => some (x3.1, x3.2))) z_Key mkKeyS (fun _ => 5) (fun _ => by omega) (fun _ => True) (fun x2 => some (x2.1, x2.2)) bigN ?_ ?_ l k h0 (by omega) (by rw [sumW_const]; exact hk) (fun _ _ => trivial)
 ·intro again k i l h0 h1 hk hM hl _
  unfold bigN at hM
  have hr : ∀ v : E_Key, rd_Key (l.set i.toNat v) i = v := fun v => set_rd z_Key l i v h0 h1
  have wi := add1 i (by omega) (by omega)
  have w1 := add1 k (by omega) (by omega)
  have w2 : Go.IntKind.wrap .i64 (k + 1 + 1) = k + 2 := (add1 (k + 1) (by omega) (by omega)).trans (by omega)
  have w3 : Go.IntKind.wrap .i64 (k + 2 + 1) = k + 3 := (add1 (k + 2) (by omega) (by omega)).trans (by omega)
  have w4 : Go.IntKind.wrap .i64 (k + 3 + 1) = k + 4 := (add1 (k + 3) (by omega) (by omega)).trans (by omega)
  have w5 : Go.IntKind.wrap .i64 (k + 4 + 1) = k + 5 := (add1 (k + 4) (by omega) (by omega)).trans (by omega)
  unfold S_laws_markKeyS_2 mkKeyS
  simp only [Bool.cond_eq_ite, decide_eq_true_eq, h0, h1, if_true, wi, w1, w2, w3, w4, w5, hr, List.length_set, List.set_set]
 ·intro again k i l hi
  unfold S_laws_markKeyS_2
  simp only [Bool.cond_eq_ite, decide_eq_true_eq, if_neg hi]
theorem heldKeyS_eq (l : List E_Key) (k : Int) (h0 : 0 ≤ k) (hl : l.length ≤ 1048576) (hk : k + 5 * l.length ≤ bigN) : F_laws_heldKeyS (marksL mkKeyS (fun _ => 5) l k, k) = some (k + sumW (fun _ : E_Key => (5 : Int)) l) := by
 unfold F_laws_heldKeyS L_laws_heldKeyS_2
 refine held_loop (step := S_laws_heldKeyS_2 (fun x1 => some x1.2) (fun x2 => some x2)) z_Key mkKeyS (fun _ => 5) (fun _ => by omega) (fun x2 => some x2) bigN ?_ ?_ l k h0 (by omega) (by rw [sumW_const]; exact hk)
 ·intro again l k i a h0 h1 hk hM hl he
  unfold bigN at hM
  have hr : rd_Key l i = (k, k + 1, k + 2, k + 3, k + 4) := he
  have wi := add1 i (by omega) (by omega)
  have w1 := add1 k (by omega) (by omega)
  have w2 : Go.IntKind.wrap .i64 (k + 1 + 1) = k + 2 := (add1 (k + 1) (by omega) (by omega)).trans (by omega)
  have w3 : Go.IntKind.wrap .i64 (k + 2 + 1) = k + 3 := (add1 (k + 2) (by omega) (by omega)).trans (by omega)
  have w4 : Go.IntKind.wrap .i64 (k + 3 + 1) = k + 4 := (add1 (k + 3) (by omega) (by omega)).trans (by omega)
  have w5 : Go.IntKind.wrap .i64 (k + 4 + 1) = k + 5 := (add1 (k + 4) (by omega) (by omega)).trans (by omega)
  unfold S_laws_heldKeyS_2
  simp only [Bool.cond_eq_ite, decide_eq_true_eq, h0, h1, if_true, wi, w1, w2, w3, w4, w5, hr, bne_self_eq_false, beq_self_eq_true, Bool.not_true, Bool.false_eq_true, if_false]
 ·intro again l k i hi
  unfold S_laws_heldKeyS_2
  simp only [Bool.cond_eq_ite, decide_eq_true_eq, if_neg hi]
noncomputable def mkAgeS (_ : E_Age) (k : Int) : E_Age := (k, k + 1)
theorem markAgeS_eq (l : List E_Age) (k : Int) (h0 : 0 ≤ k) (hl : l.length ≤ 1048576) (hk : k + 2 * l.length ≤ bigN) : F_laws_markAgeS (l, k) = some (k + sumW (fun _ : E_Age => (2 : Int)) l, marksL mkAgeS (fun _ => 2) l k) := by
 unfold F_laws_markAgeS L_laws_markAgeS_2
 refine mark_loop (step := S_laws_markAgeS_2 (fun x1 => some (x1.1, x1.2))) z_Age mkAgeS (fun _ => 2) (fun _ => by omega) (fun _ => True) (fun x2 => some (x2.1, x2.2)) bigN ?_ ?_ l k h0 (by omega) (by rw [sumW_const]; exact hk) (fun _ _ => trivial)
 ·intro again k i l h0 h1 hk hM hl _
  unfold bigN at hM
  have hr : ∀ v : E_Age, rd_Age (l.set i.toNat v) i = v := fun v => set_rd z_Age l i v h0 h1
  have wi := add1 i (by omega) (by omega)
  have w1 := add1 k (by omega) (by omega)
  have w2 : Go.IntKind.wrap .i64 (k + 1 + 1) = k + 2 := (add1 (k + 1) (by omega) (by omega)).trans (by omega)
  unfold S_laws_markAgeS_2 mkAgeS
  simp only [Bool.cond_eq_ite, decide_eq_true_eq, h0, h1, if_true, wi, w1, w2, hr, List.length_set, List.set_set]
 ·intro again k i l hi
  unfold S_laws_markAgeS_2
  simp only [Bool.cond_eq_ite, decide_eq_true_eq, if_neg hi]
theorem heldAgeS_eq (l : List E_Age) (k : Int) (h0 : 0 ≤ k) (hl : l.length ≤ 1048576) (hk : k + 2 * l.length ≤ bigN) : F_laws_heldAgeS (marksL mkAgeS (fun _ => 2) l k, k) = some (k + sumW (fun _ : E_Age => (2 : Int)) l) := by
 unfold F_laws_heldAgeS L_laws_heldAgeS_2
 refine held_loop (step := S_laws_heldAgeS_2 (fun x1 => some x1.2) (fun x2 => some x2)) z_Age mkAgeS (fun _ => 2) (fun _ => by omega) (fun x2 => some x2) bigN ?_ ?_ l k h0 (by omega) (by rw [sumW_const]; exact hk)
 ·intro again l k i a h0 h1 hk hM hl he
  unfold bigN at hM
  have hr : rd_Age l i = (k, k + 1) := he
  have wi := add1 i (by omega) (by omega)
  have w1 := add1 k (by omega) (by omega)
  have w2 : Go.IntKind.wrap .i64 (k + 1 + 1) = k + 2 := (add1 (k + 1) (by omega) (by omega)).trans (by omega)
  unfold S_laws_heldAgeS_2
  simp only [Bool.cond_eq_ite, decide_eq_true_eq, h0, h1, if_true, wi, w1, w2, hr, bne_self_eq_false, beq_self_eq_true, Bool.not_true, Bool.false_eq_true, if_false]
 ·intro again l k i hi
  unfold S_laws_heldAgeS_2
  simp only [Bool.cond_eq_ite, decide_eq_true_eq, if_neg hi]
noncomputable def mkCellS (_ : E_Cell) (k : Int) : E_Cell := (k, Int.tmod (k + 1) 3 == 0, k + 2)
theorem markCellS_eq (l : List E_Cell) (k : Int) (h0 : 0 ≤ k) (hl : l.length ≤ 1048576) (hk : k + 3 * l.length ≤ bigN) : F_laws_markCellS (l, k) = some (k + sumW (fun _ : E_Cell => (3 : Int)) l, marksL mkCellS (fun _ => 3) l k) := by
 unfold F_laws_markCellS L_laws_markCellS_2
 refine mark_loop (step := S_laws_markCellS_2 (fun x2 => some (x2.1, x2.2))) z_Cell mkCellS (fun _ => 3) (fun _ => by omega) (fun _ => True) (fun x2 => some (x2.1, x2.2)) bigN ?_ ?_ l k h0 (by omega) (by rw [sumW_const]; exact hk) (fun _ _ => trivial)
 ·intro again k i l h0 h1 hk hM hl _
  unfold bigN at hM
  have hr : ∀ v : E_Cell, rd_Cell (l.set i.toNat v) i = v := fun v => set_rd z_Cell l i v h0 h1
  have wi := add1 i (by omega) (by omega)
  have w1 := add1 k (by omega) (by omega)
  have w2 : Go.IntKind.wrap .i64 (k + 1 + 1) = k + 2 := (add1 (k + 1) (by omega) (by omega)).trans (by omega)
  have w3 : Go.IntKind.wrap .i64 (k + 2 + 1) = k + 3 := (add1 (k + 2) (by omega) (by omega)).trans (by omega)
  unfold S_laws_markCellS_2 mkCellS
  simp only [Bool.cond_eq_ite, decide_eq_true_eq, h0, h1, if_true, wi, w1, w2, w3, hr, List.length_set, List.set_set]
 ·intro again k i l hi
  unfold S_laws_markCellS_2
  simp only [Bool.cond_eq_ite, decide_eq_true_eq, if_neg hi]
theorem heldCellS_eq (l : List E_Cell) (k : Int) (h0 : 0 ≤ k) (hl : l.length ≤ 1048576) (hk : k + 3 * l.length ≤ bigN) : F_laws_heldCellS (marksL mkCellS (fun _ => 3) l k, k) = some (k + sumW (fun _ : E_Cell => (3 : Int)) l) := by
 unfold F_laws_heldCellS L_laws_heldCellS_2
 refine held_loop (step := S_laws_heldCellS_2 (fun x1 => some x1.2) (fun x2 => some x2)) z_Cell mkCellS (fun _ => 3) (fun _ => by omega) (fun x2 => some x2) bigN ?_ ?_ l k h0 (by omega) (by rw [sumW_const]; exact hk)
 ·intro again l k i a h0 h1 hk hM hl he
  unfold bigN at hM
  have hr : rd_Cell l i = (k, Int.tmod (k + 1) 3 == 0, k + 2) := he
  have wi := add1 i (by omega) (by omega)
  have w1 := add1 k (by omega) (by omega)
  have w2 : Go.IntKind.wrap .i64 (k + 1 + 1) = k + 2 := (add1 (k + 1) (by omega) (by omega)).trans (by omega)
  have w3 : Go.IntKind.wrap .i64 (k + 2 + 1) = k + 3 := (add1 (k + 2) (by omega) (by omega)).trans (by omega)
  unfold S_laws_heldCellS_2
  simp only [Bool.cond_eq_ite, decide_eq_true_eq, h0, h1, if_true, wi, w1, w2, w3, hr, bne_self_eq_false, beq_self_eq_true, Bool.not_true, Bool.false_eq_true, if_false]
 ·intro again l k i hi
  unfold S_laws_heldCellS_2
  simp only [Bool.cond_eq_ite, decide_eq_true_eq, if_neg hi]
noncomputable def mkVolS (_ : E_Vol) (k : Int) : E_Vol := (mt k, k + 1, k + 2, Int.tmod (k + 3) 3 == 0)
theorem markVolS_eq (l : List E_Vol) (k : Int) (h0 : 0 ≤ k) (hl : l.length ≤ 1048576) (hk : k + 4 * l.length ≤ bigN) : F_laws_markVolS (l, k) = some (k + sumW (fun _ : E_Vol => (4 : Int)) l, marksL mkVolS (fun _ => 4) l k) := by
 unfold F_laws_markVolS L_laws_markVolS_2
 refine mark_loop (step := S_laws_markVolS_2 (fun x3 => some (x3.1, x3.2))) z_Vol mkVolS (fun _ => 4) (fun _ => by omega) (fun _ => True) (fun x2 => some (x2.1, x2.2)) bigN ?_ ?_ l k h0 (by omega) (by rw [sumW_const]; exact hk) (fun _ _ => trivial)
 ·intro again k i l h0 h1 hk hM hl _
  unfold bigN at hM
  have hr : ∀ v : E_Vol, rd_Vol (l.set i.toNat v) i = v := fun v => set_rd z_Vol l i v h0 h1
  have wi := add1 i (by omega) (by omega)
  have w1 := add1 k (by omega) (by omega)
  have w2 : Go.IntKind.wrap .i64 (k + 1 + 1) = k + 2 := (add1 (k + 1) (by omega) (by omega)).trans (by omega)
  have w3 : Go.IntKind.wrap .i64 (k + 2 + 1) = k + 3 := (add1 (k + 2) (by omega) (by omega)).trans (by omega)
  have w4 : Go.IntKind.wrap .i64 (k + 3 + 1) = k + 4 := (add1 (k + 3) (by omega) (by omega)).trans (by omega)
  have ht := markText_eq k (by omega) (by omega)
  unfold S_laws_markVolS_2 mkVolS
  simp only [Bool.cond_eq_ite, decide_eq_true_eq, h0, h1, if_true, wi, w1, w2, w3, w4, ht, Option.bind_some, hr, List.length_set, List.set_set]
 ·intro again k i l hi
  unfold S_laws_markVolS_2
  simp only [Bool.cond_eq_ite, decide_eq_true_eq, if_neg hi]
theorem heldVolS_eq (l : List E_Vol) (k : Int) (h0 : 0 ≤ k) (hl : l.length ≤ 1048576) (hk : k + 4 * l.length ≤ bigN) : F_laws_heldVolS (marksL mkVolS (fun _ => 4) l k, k) = some (k + sumW (fun _ : E_Vol => (4 : Int)) l) := by
 unfold F_laws_heldVolS L_laws_heldVolS_2
 refine held_loop (step := S_laws_heldVolS_2 (fun x2 => some x2.2) (fun x3 => some x3)) z_Vol mkVolS (fun _ => 4) (fun _ => by omega) (fun x2 => some x2) bigN ?_ ?_ l k h0 (by omega) (by rw [sumW_const]; exact hk)
 ·intro again l k i a h0 h1 hk hM hl he
  unfold bigN at hM
  have hr : rd_Vol l i = (mt k, k + 1, k + 2, Int.tmod (k + 3) 3 == 0) := he
  have wi := add1 i (by omega) (by omega)
  have w1 := add1 k (by omega) (by omega)
  have w2 : Go.IntKind.wrap .i64 (k + 1 + 1) = k + 2 := (add1 (k + 1) (by omega) (by omega)).trans (by omega)
  have w3 : Go.IntKind.wrap .i64 (k + 2 + 1) = k + 3 := (add1 (k + 2) (by omega) (by omega)).trans (by omega)
  have w4 : Go.IntKind.wrap .i64 (k + 3 + 1) = k + 4 := (add1 (k + 3) (by omega) (by omega)).trans (by omega)
  have ht := markText_eq k (by omega) (by omega)
  unfold S_laws_heldVolS_2
  simp only [Bool.cond_eq_ite, decide_eq_true_eq, h0, h1, if_true, wi, w1, w2, w3, w4, ht, Option.bind_some, hr, bne_self_eq_false, beq_self_eq_true, Bool.not_true, Bool.false_eq_true, if_false]
 ·intro again l k i hi
  unfold S_laws_heldVolS_2
  simp only [Bool.cond_eq_ite, decide_eq_true_eq, if_neg hi]
def cntS (a : E_s_Key) : Int := sumW (fun _ : E_Key => (5 : Int)) a
theorem cntS_len (a : E_s_Key) : cntS a = 5 * (List.length a : Int) := sumW_const 5 a
theorem cntS_nonneg (a : E_s_Key) : 0 ≤ cntS a := by
 rw [cntS_len]
 omega
noncomputable def mkSet (a : E_s_Key) (k : Int) : E_s_Key := marksL mkKeyS (fun _ => 5) a k
theorem markKeySS_eq (l : List E_s_Key) (k : Int) (h0 : 0 ≤ k) (hl : l.length ≤ 1048576) (hk : k + sumW cntS l ≤ bigN) (hm : ∀ a ∈ l, List.length a ≤ 1048576) : F_laws_markKeySS (l, k) = some (k + sumW cntS l, marksL mkSet cntS l k) := by
 unfold F_laws_markKeySS L_laws_markKeySS_2
 refine mark_loop z_s_Key mkSet cntS cntS_nonneg (fun a => List.length a ≤ 1048576) (fun x2 => some (x2.1, x2.2)) bigN ?_ ?_ l k h0 (by omega) hk hm
 ·intro again k i l h0 h1 hk hM hl hP
  have hc := cntS_len (l.getD i.toNat z_s_Key)
  have wi := add1 i (by omega) (by omega)
  have he : F_laws_markKeyS (rd_s_Key l i, k) = some (k + cntS (l.getD i.toNat z_s_Key), mkSet (l.getD i.toNat z_s_Key) k) := markKeyS_eq (l.getD i.toNat z_s_Key) k hk hP (by omega)
  unfold S_laws_markKeySS_2
  simp only [Bool.cond_eq_ite, decide_eq_true_eq, h0, h1, if_true, wi, he, Option.bind_some]
 ·intro again k i l hi
  unfold S_laws_markKeySS_2
  simp only [Bool.cond_eq_ite, decide_eq_true_eq, if_neg hi]
theorem held_loopP {A R : Type} (da : A) (mk : A → Int → A) (cnt : A → Int) (hc : ∀ a, 0 ≤ cnt a) (P : A → Prop) {step : (List A × Int × Int → Option R) → List A × Int × Int → Option R} (k1 : Int → Option R) (M : Int)
  (h : ∀ again l k i a, 0 ≤ i → i < ((List.length l : Nat) : Int) → 0 ≤ k → k + cnt a ≤ M → (List.length l : Int) ≤ 1099511627776 → P a → l.getD i.toNat da = mk a k → step again (l, k, i) = again (l, k + cnt a, i + 1))
  (hd : ∀ again l k i, ¬ i < ((List.length l : Nat) : Int) → step again (l, k, i) = k1 k)
  (l : List A) (k : Int) (hk : 0 ≤ k) (hl : l.length ≤ 1099511627776) (hM : k + sumW cnt l ≤ M) (hP : ∀ a ∈ l, P a) : iter step FUEL (marksL mk cnt l k, k, 0) = k1 (k + sumW cnt l) := by
 have hlen := marksL_len mk cnt l k
 rw [loop_fuel (fun t : List A × Int × Int => l.length - t.2.2.toNat) (fun t => t.1 = marksL mk cnt l k ∧ 0 ≤ t.2.2 ∧ t.2.2 ≤ l.length ∧ 0 ≤ t.2.1 ∧ ∃ r, (∀ a ∈ r, P a) ∧ t.1.drop t.2.2.toNat = marksL mk cnt r t.2.1 ∧ t.2.1 + sumW cnt r = k + sumW cnt l) (fun t => k1 (k + sumW cnt l)) ?_ (marksL mk cnt l k, k, 0) ⟨rfl, by simp, by simp, hk, l, hP, by simp, rfl⟩ (by simp; omega)]
 rintro again ⟨o, k', i⟩ ⟨h1, h2, h3, h4, r, hPr, h5, h6⟩ hag
 simp only at h1 h2 h3 h4 h5 h6 ⊢
 subst h1
 by_cases hi : i < ((List.length (marksL mk cnt l k) : Nat) : Int)
 ·rw [drop_getD da _ i h2 hi] at h5
  cases r with
  | nil => simp [marksL] at h5
  | cons a r =>
   simp only [marksL, List.cons.injEq] at h5
   rw [sumW_cons] at h6
   have hs := sumW_nonneg hc r
   have ha := hc a
   rw [h again _ k' i a h2 hi h4 (by omega) (by omega) (hPr a (by simp)) h5.1]
   exact hag (marksL mk cnt l k, k' + cnt a, i + 1) ⟨rfl, by simp only; omega, by simp only; omega, by simp only; omega, r, fun b hb => hPr b (by simp [hb]), h5.2, by simp only; omega⟩ (by simp only; omega)
 ·rw [hd again _ k' i hi]
  have : r = [] := by
   rw [List.drop_of_length_le (by omega)] at h5
   cases r with
   | nil => rfl
   | cons a r => simp [marksL] at h5
  subst this
  rw [← h6]
  simp [sumW]
theorem heldKeySS_eq (l : List E_s_Key) (k : Int) (h0 : 0 ≤ k) (hl : l.length ≤ 1048576) (hk : k + sumW cntS l ≤ bigN) (hm : ∀ a ∈ l, List.length a ≤ 1048576) : F_laws_heldKeySS (marksL mkSet cntS l k, k) = some (k + sumW cntS l) := by
 unfold F_laws_heldKeySS L_laws_heldKeySS_2
 refine held_loopP z_s_Key mkSet cntS cntS_nonneg (fun a => List.length a ≤ 1048576) (fun x => some x) bigN ?_ ?_ l k h0 (by omega) hk hm
 ·intro again l k i a h0 h1 hk hM hl hP he
  have hc := cntS_len a
  have wi := add1 i (by omega) (by omega)
  have hr : rd_s_Key l i = mkSet a k := he
  have hn : ¬ (k + cntS a < 0) := by omega
  have h2 : F_laws_heldKeyS (rd_s_Key l i, k) = some (k + cntS a) := by
   rw [hr]
   exact heldKeyS_eq a k hk hP (by omega)
  unfold S_laws_heldKeySS_2
  simp only [Bool.cond_eq_ite, decide_eq_true_eq, h0, h1, if_true, wi, h2, hn, if_false, Option.bind_some]
 ·intro again l k i hi
  unfold S_laws_heldKeySS_2
  simp only [Bool.cond_eq_ite, decide_eq_true_eq, if_neg hi]
def cntN (a : E_Node) : Int := sumW cntS a
theorem cntN_nonneg (a : E_Node) : 0 ≤ cntN a := sumW_nonneg cntS_nonneg a
noncomputable def mkNode (a : E_Node) (k : Int) : E_Node := marksL mkSet cntS a k
def nodeP (a : E_Node) : Prop := List.length a ≤ 1048576 ∧ ∀ b ∈ (show List E_s_Key from a), List.length b ≤ 1048576
theorem markNodeS_eq (l : List E_Node) (k : Int) (h0 : 0 ≤ k) (hl : l.length ≤ 1048576) (hk : k + sumW cntN l ≤ bigN) (hm : ∀ a ∈ l, nodeP a) : F_laws_markNodeS (l, k) = some (k + sumW cntN l, marksL mkNode cntN l k) := by
 unfold F_laws_markNodeS L_laws_markNodeS_2
 refine mark_loop z_Node mkNode cntN cntN_nonneg nodeP (fun x2 => some (x2.1, x2.2)) bigN ?_ ?_ l k h0 (by omega) hk hm
 ·intro again k i l h0 h1 hk hM hl hP
  have wi := add1 i (by omega) (by omega)
  have he : F_laws_markKeySS (rd_Node l i, k) = some (k + cntN (l.getD i.toNat z_Node), mkNode (l.getD i.toNat z_Node) k) := markKeySS_eq (l.getD i.toNat z_Node) k hk hP.1 hM hP.2
  unfold S_laws_markNodeS_2
  simp only [Bool.cond_eq_ite, decide_eq_true_eq, h0, h1, if_true, wi, he, Option.bind_some]
 ·intro again k i l hi
  unfold S_laws_markNodeS_2
  simp only [Bool.cond_eq_ite, decide_eq_true_eq, if_neg hi]
theorem heldNodeS_eq (l : List E_Node) (k : Int) (h0 : 0 ≤ k) (hl : l.length ≤ 1048576) (hk : k + sumW cntN l ≤ bigN) (hm : ∀ a ∈ l, nodeP a) : F_laws_heldNodeS (marksL mkNode cntN l k, k) = some (k + sumW cntN l) := by
 unfold F_laws_heldNodeS L_laws_heldNodeS_2
 refine held_loopP z_Node mkNode cntN cntN_nonneg nodeP (fun x => some x) bigN ?_ ?_ l k h0 (by omega) hk hm
 ·intro again l k i a h0 h1 hk hM hl hP he
  have hc := cntN_nonneg a
  have wi := add1 i (by omega) (by omega)
  have hr : rd_Node l i = mkNode a k := he
  have hn : ¬ (k + cntN a < 0) := by omega
  have h2 : F_laws_heldKeySS (rd_Node l i, k) = some (k + cntN a) := by
   rw [hr]
   exact heldKeySS_eq a k hk hP.1 hM hP.2
  unfold S_laws_heldNodeS_2
  simp only [Bool.cond_eq_ite, decide_eq_true_eq, h0, h1, if_true, wi, h2, hn, if_false, Option.bind_some]
 ·intro again l k i hi
  unfold S_laws_heldNodeS_2
  simp only [Bool.cond_eq_ite, decide_eq_true_eq, if_neg hi]
theorem cntN_le (n : E_Node) : cntN n ≤ 5 * wSets n := by
 have h1 : cntN n ≤ 5 * sumW (fun a : E_s_Key => (List.length a : Int)) n := sum_le cntS (fun a : E_s_Key => (List.length a : Int)) 5 (fun a => by rw [cntS_len]; exact Int.le_refl _) n
 have h2 : wSets n = (List.length n : Int) + sumW (fun a : E_s_Key => (List.length a : Int)) n := rfl
 omega
def plK (q : List E_i64) (t : List E_Node) (l : List E_Age) (cs : List E_Cell) (vs : List E_Vol) : Int := q.length + sumW cntN t + 2 * l.length + 3 * cs.length + 4 * vs.length
theorem plK_range (q : List E_i64) (t : List E_Node) (l : List E_Age) (cs : List E_Cell) (vs : List E_Vol) (h : small q t l cs vs) : 0 ≤ plK q t l cs vs ∧ plK q t l cs vs ≤ 60000000 := by
 have hN := sum_le cntN wSets 5 cntN_le t
 have hN0 := sumW_nonneg cntN_nonneg t
 obtain ⟨h1, h2, h3, h4, h5, h6⟩ := h
 unfold plK
 omega
theorem markPool_eq (q : List E_i64) (t : List E_Node) (l : List E_Age) (cs : List E_Cell) (vs : List E_Vol) (z k : Int) (h0 : 0 ≤ k) (hk : k ≤ 1099511627) (h : small q t l cs vs) :
  ∃ q' t' l' cs' vs', F_laws_markPool (q, t, l, cs, vs, z, k) = some (k + plK q t l cs vs, q', t', l', cs', vs') ∧ F_laws_heldPool (q', t', l', cs', vs', z, k) = some (k + plK q t l cs vs) := by
 have hr := plK_range q t l cs vs h
 obtain ⟨hq, ht, hw, hl, hc, hv⟩ := h
 have hN := sum_le cntN wSets 5 cntN_le t
 have hN0 := sumW_nonneg cntN_nonneg t
 have hm : ∀ n ∈ t, nodeP n := fun n hn => node_small hw hn
 have s1 : sumW (fun _ : E_i64 => (1 : Int)) q = q.length := by
  rw [sumW_const]
  omega
 have s3 : sumW (fun _ : E_Age => (2 : Int)) l = 2 * l.length := sumW_const 2 l
 have s4 : sumW (fun _ : E_Cell => (3 : Int)) cs = 3 * cs.length := sumW_const 3 cs
 have s5 : sumW (fun _ : E_Vol => (4 : Int)) vs = 4 * vs.length := sumW_const 4 vs
 have e1 := markIntS_eq q k (by omega) hq (by unfold bigN; omega)
 have e2 := markNodeS_eq t (k + q.length) (by omega) ht (by unfold bigN; omega) hm
 have e3 := markAgeS_eq l (k + q.length + sumW cntN t) (by omega) hl (by unfold bigN; omega)
 have e4 := markCellS_eq cs (k + q.length + sumW cntN t + 2 * l.length) (by omega) hc (by unfold bigN; omega)
 have e5 := markVolS_eq vs (k + q.length + sumW cntN t + 2 * l.length + 3 * cs.length) (by omega) hv (by unfold bigN; omega)
 have g1 := heldIntS_eq q k (by omega) hq (by unfold bigN; omega)
 have g2 := heldNodeS_eq t (k + q.length) (by omega) ht (by unfold bigN; omega) hm
 have g3 := heldAgeS_eq l (k + q.length + sumW cntN t) (by omega) hl (by unfold bigN; omega)
 have g4 := heldCellS_eq cs (k + q.length + sumW cntN t + 2 * l.length) (by omega) hc (by unfold bigN; omega)
 have g5 := heldVolS_eq vs (k + q.length + sumW cntN t + 2 * l.length + 3 * cs.length) (by omega) hv (by unfold bigN; omega)
 rw [s1] at e1 g1
 rw [s3] at e3 g3
 rw [s4] at e4 g4
 rw [s5] at e5 g5
 have et : k + q.length + sumW cntN t + 2 * l.length + 3 * cs.length + 4 * vs.length = k + plK q t l cs vs := by
  unfold plK
  omega
 rw [et] at e5 g5
 refine ⟨marksL mkIntS (fun _ => 1) q k, marksL mkNode cntN t (k + q.length), marksL mkAgeS (fun _ => 2) l (k + q.length + sumW cntN t), marksL mkCellS (fun _ => 3) cs (k + q.length + sumW cntN t + 2 * l.length), marksL mkVolS (fun _ => 4) vs (k + q.length + sumW cntN t + 2 * l.length + 3 * cs.length), ?_, ?_⟩
 ·unfold F_laws_markPool F_laws_markTree
  simp only [e1, e2, e3, e4, e5, Option.bind_some]
 ·unfold F_laws_heldPool F_laws_heldTree
  simp only [g1, Option.bind_some]
  rw [decide_eq_false (show ¬ (k + (q.length : Int)) < 0 by omega)]
  simp only [cond_false, g2, Option.bind_some]
  rw [decide_eq_false (show ¬ (k + (q.length : Int) + sumW cntN t) < 0 by omega)]
  simp only [cond_false, Option.bind_some]
  rw [decide_eq_false (show ¬ (k + (q.length : Int) + sumW cntN t) < 0 by omega)]
  simp only [cond_false, g3, Option.bind_some]
  rw [decide_eq_false (show ¬ (k + (q.length : Int) + sumW cntN t + 2 * l.length) < 0 by omega)]
  simp only [cond_false, g4, Option.bind_some]
  rw [decide_eq_false (show ¬ (k + (q.length : Int) + sumW cntN t + 2 * l.length + 3 * cs.length) < 0 by omega)]
  simp only [cond_false, g5, Option.bind_some]
  rw [decide_eq_false (show ¬ (k + plK q t l cs vs) < 0 by omega)]
  rfl
end Go.Proofs.YtmapoakbdgpamaaGreat.Pl
namespace Go.Proofs.YtmapoakbdgpamaaGreat.Pl
open Go.Proofs.YtmapoakbdgpamaaGreat.R Go.Proofs.YtmapoakbdgpamaaGreat.XM
noncomputable def storeK (m0 : Int) (s : List E_s_u8) (c : List E_Wr) (u : Int) (q : List E_i64) (t : List E_Node) (l : List E_Age) (cs : List E_Cell) (vs : List E_Vol) (z a n m : Int) : Bool :=
 devK s c u && (((s.length : Int) == 60) && (poolOkK q t l cs vs z && (inR n 1 50000 && (inR m n (IntKind.i64.wrap (n + 6)) && (inR m 1 50000 && inR a m0 50000)))))
structure SmallS (s : List E_s_u8) (c : List E_Wr) (q : List E_i64) (t : List E_Node) (l : List E_Age) (cs : List E_Cell) (vs : List E_Vol) : Prop where
 D : smallD s c
 P : small q t l cs vs
 T : TOk t
 N : ∀ v ∈ vs, ByteArray.size v.1 ≤ maxLen
theorem tok_small {q : List E_i64} {t : List E_Node} {l : List E_Age} {cs : List E_Cell} {vs : List E_Vol} (h : small q t l cs vs) : TOk t :=
 ⟨by have := h.2.1; omega, fun n hn => by
  have := (node_small h.2.2.1 hn).1
  omega, h.2.2.1⟩
section
variable {s : List E_s_u8} {c : List E_Wr} (u : Int) (b : Bool) {q : List E_i64} {t : List E_Node} {l : List E_Age} {cs : List E_Cell} {vs : List E_Vol} (z a n m : Int) (h : SmallS s c q t l cs vs)
include h
theorem spec_Limits_k : F_spec_l19Limits (s, c, u, b, q, t, l, cs, vs, z, a, n, m) = some (devK s c u && (((s.length : Int) == 60) && (poolOkK q t l cs vs z && (inR n 1 50000 && (inR m n (IntKind.i64.wrap (n + 6)) && inR m 1 50000))))) := by
 unfold F_spec_l19Limits
 simp only [spec_DevOk_eq s c u b h.D.1 h.D.2.1, spec_PoolOk_eq q t l cs vs z h.T h.P.2.2.2.1 h.P.2.2.2.2.1 h.P.2.2.2.2.2 h.N, l1In_eq, Option.bind_some]
 generalize devK s c u = d1
 generalize (((List.length s : Nat) : Int) == 60) = d2
 generalize poolOkK q t l cs vs z = d3
 generalize inR n 1 50000 = d4
 generalize inR m n (IntKind.i64.wrap (n + 6)) = d5
 generalize inR m 1 50000 = d6
 cases d1 <;> cases d2 <;> cases d3 <;> cases d4 <;> cases d5 <;> cases d6 <;> rfl
theorem impl_storeOk_k (m0 : Int) : F_impl_storeOk (s, c, u, b, q, t, l, cs, vs, z, a, n, m, m0) = some (storeK m0 s c u q t l cs vs z a n m) := by
 unfold F_impl_storeOk storeK
 simp only [impl_DevOk_eq s c u b h.D.1 h.D.2.1, impl_PoolOk_eq q t l cs vs z h.T h.P.2.2.2.1 h.P.2.2.2.2.1 h.P.2.2.2.2.2 h.N, within_eq, Option.bind_some]
 generalize devK s c u = d1
 generalize (((List.length s : Nat) : Int) == 60) = d2
 generalize poolOkK q t l cs vs z = d3
 generalize inR n 1 50000 = d4
 generalize inR m n (IntKind.i64.wrap (n + 6)) = d5
 generalize inR m 1 50000 = d6
 generalize inR a m0 50000 = d7
 cases d1 <;> cases d2 <;> cases d3 <;> cases d4 <;> cases d5 <;> cases d6 <;> cases d7 <;> rfl
theorem spec_StoreOk_k : F_spec_StoreOk (s, c, u, b, q, t, l, cs, vs, z, a, n, m) = some (storeK 1 s c u q t l cs vs z a n m) := by
 unfold F_spec_StoreOk storeK
 simp only [spec_Limits_k u b z a n m h, l1In_eq, Option.bind_some]
 generalize devK s c u = d1
 generalize (((List.length s : Nat) : Int) == 60) = d2
 generalize poolOkK q t l cs vs z = d3
 generalize inR n 1 50000 = d4
 generalize inR m n (IntKind.i64.wrap (n + 6)) = d5
 generalize inR m 1 50000 = d6
 cases d1 <;> cases d2 <;> cases d3 <;> cases d4 <;> cases d5 <;> cases d6 <;> rfl
theorem impl_StoreOk_k : F_impl_StoreOk (s, c, u, b, q, t, l, cs, vs, z, a, n, m) = some (storeK 1 s c u q t l cs vs z a n m) := by
 unfold F_impl_StoreOk
 simp only [impl_storeOk_k u b z a n m h 1, Option.bind_some]
theorem spec_l19Copy_eq : F_spec_l19Copy (s, c, u, b, q, t, l, cs, vs, z, a, n, m) = some (s, c, u, b, q, t, l, cs, vs, z, a, n, m) := by
 unfold F_spec_l19Copy
 simp only [spec_l2Copy_eq s c u b h.D, spec_l10Copy_eq q t l cs vs z h.P, Option.bind_some]
theorem impl_copyStore_eq : F_impl_copyStore (s, c, u, b, q, t, l, cs, vs, z, a, n, m) = some (s, c, u, b, q, t, l, cs, vs, z, a, n, m) := by
 unfold F_impl_copyStore
 simp only [impl_copyDev_eq s c u b h.D, impl_copyPool_eq q t l cs vs z h.P, Option.bind_some]
theorem toStore_eq : F_laws_toStore (s, c, u, b, q, t, l, cs, vs, z, a, n, m) = some (s, c, u, b, q, t, l, cs, vs, z, a, n, m) := by
 unfold F_laws_toStore
 simp only [toDev_eq s c u b h.D, toPool_eq q t l cs vs z h.P, Option.bind_some]
theorem eqStore_refl : F_laws_eqStore (s, c, u, b, q, t, l, cs, vs, z, a, n, m, s, c, u, b, q, t, l, cs, vs, z, a, n, m) = some true := by
 unfold F_laws_eqStore
 simp only [eqDev_refl s c u b h.D, eqPool_refl q t l cs vs z h.P, Option.bind_some, Bool.not_true, cond_false, bne_self_eq_false]
theorem markStore_eq : ∃ r s' c' q' t' l' cs' vs', F_laws_markStore (s, c, u, b, q, t, l, cs, vs, z, a, n, m, 1) = some (r, s', c', q', t', l', cs', vs') ∧ F_laws_heldStore (s', c', u, b, q', t', l', cs', vs', z, a, n, m, 1) = some r ∧ 0 ≤ r := by
 have w1 := sumW_nonneg lenB_nonneg s
 have w2 := sumW_nonneg cntW_nonneg c
 have w5 : sumW cntW c ≤ 4000000 := by
  have := h.D.2.1
  have := h.D.2.2.2
  rw [sum_cntW]
  omega
 have w6 := h.D.2.2.1
 have hr := plK_range q t l cs vs h.P
 obtain ⟨q', t', l', cs', vs', m1, m2⟩ := markPool_eq q t l cs vs z (1 + sumW lenB s + sumW cntW c) (by omega) (by omega) h.P
 refine ⟨1 + sumW lenB s + sumW cntW c + plK q t l cs vs, marksL mkS lenB s 1, marksL mkW cntW c (1 + sumW lenB s), q', t', l', cs', vs', ?_, ?_, ?_⟩
 ·unfold F_laws_markStore
  simp only [markDev_eq s c u b h.D, m1, Option.bind_some]
 ·unfold F_laws_heldStore
  simp only [heldDev_eq s c u b h.D, m2, Option.bind_some]
  rw [decide_eq_false (show ¬ (1 + sumW lenB s + sumW cntW c) < 0 by omega)]
  simp only [cond_false, Option.bind_some]
  rw [decide_eq_false (show ¬ (1 + sumW lenB s + sumW cntW c + plK q t l cs vs) < 0 by omega)]
  rfl
 ·omega
end
theorem szStore_ok (s : List E_s_u8) (c : List E_LWr) (u : Int) (b : Bool) (is : List E_i64) (ns : List E_LNode) (ags : List E_LAge) (cs : List E_LCell) (vs : List E_LVol) (z a n m : Int) (hs : s.length ≤ maxLen) (hss : ∀ a ∈ s, List.length a ≤ maxLen) (hsc : c.length ≤ maxLen) (hcc : ∀ a ∈ c, List.length a.2 ≤ maxLen)
  (hi : is.length ≤ maxLen) (hn : ns.length ≤ maxLen) (hnn : ∀ a ∈ ns, List.length a ≤ maxLen ∧ ∀ b ∈ (show List E_s_LKey from a), List.length b ≤ maxLen)
  (ha : ags.length ≤ maxLen) (hc : cs.length ≤ maxLen) (hv : vs.length ≤ maxLen) (hvv : ∀ a ∈ vs, ByteArray.size a.1 ≤ maxLen) :
  ∃ r, F_laws_szStore (s, c, u, b, is, ns, ags, cs, vs, z, a, n, m, 1048576) = some r ∧ (r < 0 ∨ SmallS s c is ns ags cs vs) := by
 unfold F_laws_szStore
 rcases szDev_ok s c u b hs hss hsc hcc with h | ⟨r, h, r0, r1, hD⟩
 ·simp only [h, Option.bind_some]
  exact ⟨-1, rfl, .inl (by omega)⟩
 ·obtain ⟨r2, h2, h3⟩ := szPool_okN r r0 r1 is ns ags cs vs z hi hn hnn ha hc hv hvv
  simp only [h, h2, Option.bind_some, Bool.cond_eq_ite, decide_eq_true_eq, if_neg (show ¬ r < 0 by omega)]
  by_cases h4 : r2 < 0
  ·exact ⟨-1, if_pos h4, .inl (by omega)⟩
  ·have hP := h3.resolve_left h4
   exact ⟨r2, if_neg h4, .inr ⟨hD, hP, tok_small hP, hvv⟩⟩
theorem storeK_dev {m0 : Int} {s : List E_s_u8} {c : List E_Wr} {u : Int} {q : List E_i64} {t : List E_Node} {l : List E_Age} {cs : List E_Cell} {vs : List E_Vol} {z a n m : Int} (h : storeK m0 s c u q t l cs vs z a n m = true) : devP s c u := by
 unfold storeK at h
 rw [Bool.and_eq_true] at h
 exact (devK_iff s c u).1 h.1
end Go.Proofs.YtmapoakbdgpamaaGreat.Pl
namespace Go.Proofs.YtmapoakbdgpamaaGreat.Pl
open Go.Proofs.YtmapoakbdgpamaaGreat.R Go.Proofs.YtmapoakbdgpamaaGreat.XM
noncomputable def syK (s : List E_s_u8) (c : List E_Wr) (u : Int) (b : Bool) (q : List E_i64) (t : List E_Node) (l : List E_Age) (cs : List E_Cell) (vs : List E_Vol) (z a n m : Int) : List E_s_u8 × List E_Wr × Int × Bool :=
 if storeK 1 s c u q t l cs vs z a n m = true then flK s c u b else (s, c, u, b)
section
variable {s : List E_s_u8} {c : List E_Wr} (u : Int) (b : Bool) {q : List E_i64} {t : List E_Node} {l : List E_Age} {cs : List E_Cell} {vs : List E_Vol} (z a n m : Int) (h : SmallS s c q t l cs vs)
include h
theorem syK_small : smallD (syK s c u b q t l cs vs z a n m).1 (syK s c u b q t l cs vs z a n m).2.1 := by
 unfold syK
 split
 ·rename_i hk
  exact devP_small (flK_ok s c u b (storeK_dev hk))
 ·exact h.D
theorem spec_Sync_eq : F_spec_Sync (s, c, u, b, q, t, l, cs, vs, z, a, n, m) = some (withD q t l cs vs z a n m (syK s c u b q t l cs vs z a n m)) := by
 unfold F_spec_Sync syK
 simp only [spec_l19Copy_eq u b z a n m h, spec_StoreOk_k u b z a n m h, Option.bind_some]
 cases hk : storeK 1 s c u q t l cs vs z a n m with
 | false => rfl
 | true =>
  simp only [cond_true, if_true, spec_flush13 q t l cs vs z a n m s c u b (storeK_dev hk), Option.bind_some]
theorem impl_Sync_eq : F_impl_Sync (s, c, u, b, q, t, l, cs, vs, z, a, n, m) = some (withD q t l cs vs z a n m (syK s c u b q t l cs vs z a n m)) := by
 unfold F_impl_Sync syK
 simp only [impl_copyStore_eq u b z a n m h, impl_StoreOk_k u b z a n m h, Option.bind_some]
 cases hk : storeK 1 s c u q t l cs vs z a n m with
 | false => rfl
 | true =>
  simp only [cond_true, if_true, impl_FlushDev_eq s c u b (storeK_dev hk), Option.bind_some]
  rfl
end
theorem law_Sync (s : List E_s_u8) (c : List E_LWr) (u : Int) (b : Bool) (is : List E_i64) (ns : List E_LNode) (ags : List E_LAge) (cs : List E_LCell) (vs : List E_LVol) (z a n m : Int) (hs : s.length ≤ maxLen) (hss : ∀ a ∈ s, List.length a ≤ maxLen) (hsc : c.length ≤ maxLen) (hcc : ∀ a ∈ c, List.length a.2 ≤ maxLen)
  (hi : is.length ≤ maxLen) (hn : ns.length ≤ maxLen) (hnn : ∀ a ∈ ns, List.length a ≤ maxLen ∧ ∀ b ∈ (show List E_s_LKey from a), List.length b ≤ maxLen)
  (ha : ags.length ≤ maxLen) (hc : cs.length ≤ maxLen) (hv : vs.length ≤ maxLen) (hvv : ∀ a ∈ vs, ByteArray.size a.1 ≤ maxLen) : F_laws_FnExactSync (s, c, u, b, is, ns, ags, cs, vs, z, a, n, m) = some true := by
 obtain ⟨r, hr, hcase⟩ := szStore_ok s c u b is ns ags cs vs z a n m hs hss hsc hcc hi hn hnn ha hc hv hvv
 unfold F_laws_FnExactSync
 simp only [hr, Option.bind_some]
 rw [Bool.cond_eq_ite]
 by_cases h : r < 0
 ·rw [if_pos (by simpa using h)]
 ·rw [if_neg (by simpa using h)]
  have hS := hcase.resolve_left h
  have hS2 : SmallS (syK s c u b is ns ags cs vs z a n m).1 (syK s c u b is ns ags cs vs z a n m).2.1 is ns ags cs vs := ⟨syK_small u b z a n m hS, hS.P, hS.T, hS.N⟩
  obtain ⟨r1, s1, c1, q1, t1, l1, d1, v1, k1, k2, k3⟩ := markStore_eq u b z a n m hS
  obtain ⟨r2, s2, c2, q2, t2, l2, d2, v2, g1, g2, g3⟩ := markStore_eq (syK s c u b is ns ags cs vs z a n m).2.2.1 (syK s c u b is ns ags cs vs z a n m).2.2.2 z a n m hS2
  simp only [toStore_eq u b z a n m hS, spec_Sync_eq u b z a n m hS, impl_Sync_eq u b z a n m hS, eqStore_refl u b z a n m hS, k1, Option.bind_some, withD]
  simp only [eqStore_refl (syK s c u b is ns ags cs vs z a n m).2.2.1 (syK s c u b is ns ags cs vs z a n m).2.2.2 z a n m hS2, g1, g2, Option.bind_some, Bool.not_true, cond_false]
  rw [decide_eq_false (show ¬ r1 < 0 by omega), decide_eq_false (show ¬ r2 < 0 by omega)]
  simp
end Go.Proofs.YtmapoakbdgpamaaGreat.Pl
