/- Pools: copies, comparisons, sizes. No condition. -/
import Derived.Test.YtmofdkmggfdciaaPLoops
namespace Go.Proofs.Ytmofdkmggfdciaa.Pl
open Go.Proofs.Ytmofdkmggfdciaa.R Go.Proofs.Ytmofdkmggfdciaa.XQ
set_option linter.unusedVariables false
set_option linter.unusedSimpArgs false

theorem toIntS_eq (l : List E_i64) (hl : l.length ≤ 1048576) : F_laws_toIntS l = some l := by
  unfold F_laws_toIntS L_laws_toIntS_3
  rw [if_pos (by omega), if_pos (Int.le_refl _), if_pos (by omega)]
  refine copy_loop z_i64 (fun x => some x) l (by omega) ?_ ?_ _ (by simp)
  · intro again i o h0 h1 h2
    unfold S_laws_toIntS_3
    have hw : Go.IntKind.wrap .i64 (i + 1) = i + 1 := w64 (by omega) (by omega)
    have h3 : i < (o.length : Int) := by omega
    simp only [Bool.cond_eq_ite, decide_eq_true_eq, h0, h1, h3, if_true, hw, if_true, Option.bind_some]
    rfl
  · intro again i o hi
    unfold S_laws_toIntS_3
    simp only [Bool.cond_eq_ite, decide_eq_true_eq, if_neg hi]
theorem toKeyS_eq (l : List E_Key) (hl : l.length ≤ 1048576) : F_laws_toKeyS l = some l := by
  unfold F_laws_toKeyS L_laws_toKeyS_3
  rw [if_pos (by omega), if_pos (Int.le_refl _), if_pos (by omega)]
  refine copy_loop z_Key (fun x => some x) l (by omega) ?_ ?_ _ (by simp)
  · intro again i o h0 h1 h2
    unfold S_laws_toKeyS_3
    have hw : Go.IntKind.wrap .i64 (i + 1) = i + 1 := w64 (by omega) (by omega)
    have h3 : i < (o.length : Int) := by omega
    simp only [Bool.cond_eq_ite, decide_eq_true_eq, h0, h1, h3, if_true, hw, F_laws_toKey, Option.bind_some]
    rfl
  · intro again i o hi
    unfold S_laws_toKeyS_3
    simp only [Bool.cond_eq_ite, decide_eq_true_eq, if_neg hi]
theorem toAgeS_eq (l : List E_Age) (hl : l.length ≤ 1048576) : F_laws_toAgeS l = some l := by
  unfold F_laws_toAgeS L_laws_toAgeS_3
  rw [if_pos (by omega), if_pos (Int.le_refl _), if_pos (by omega)]
  refine copy_loop z_Age (fun x => some x) l (by omega) ?_ ?_ _ (by simp)
  · intro again i o h0 h1 h2
    unfold S_laws_toAgeS_3
    have hw : Go.IntKind.wrap .i64 (i + 1) = i + 1 := w64 (by omega) (by omega)
    have h3 : i < (o.length : Int) := by omega
    simp only [Bool.cond_eq_ite, decide_eq_true_eq, h0, h1, h3, if_true, hw, F_laws_toAge, Option.bind_some]
    rfl
  · intro again i o hi
    unfold S_laws_toAgeS_3
    simp only [Bool.cond_eq_ite, decide_eq_true_eq, if_neg hi]
theorem toCellS_eq (l : List E_Cell) (hl : l.length ≤ 1048576) : F_laws_toCellS l = some l := by
  unfold F_laws_toCellS L_laws_toCellS_3
  rw [if_pos (by omega), if_pos (Int.le_refl _), if_pos (by omega)]
  refine copy_loop z_Cell (fun x => some x) l (by omega) ?_ ?_ _ (by simp)
  · intro again i o h0 h1 h2
    unfold S_laws_toCellS_3
    have hw : Go.IntKind.wrap .i64 (i + 1) = i + 1 := w64 (by omega) (by omega)
    have h3 : i < (o.length : Int) := by omega
    simp only [Bool.cond_eq_ite, decide_eq_true_eq, h0, h1, h3, if_true, hw, F_laws_toCell, Option.bind_some]
    rfl
  · intro again i o hi
    unfold S_laws_toCellS_3
    simp only [Bool.cond_eq_ite, decide_eq_true_eq, if_neg hi]
theorem toVolS_eq (l : List E_Vol) (hl : l.length ≤ 1048576) : F_laws_toVolS l = some l := by
  unfold F_laws_toVolS L_laws_toVolS_3
  rw [if_pos (by omega), if_pos (Int.le_refl _), if_pos (by omega)]
  refine copy_loop z_Vol (fun x => some x) l (by omega) ?_ ?_ _ (by simp)
  · intro again i o h0 h1 h2
    unfold S_laws_toVolS_3
    have hw : Go.IntKind.wrap .i64 (i + 1) = i + 1 := w64 (by omega) (by omega)
    have h3 : i < (o.length : Int) := by omega
    simp only [Bool.cond_eq_ite, decide_eq_true_eq, h0, h1, h3, if_true, hw, F_laws_toVol, Option.bind_some]
    rfl
  · intro again i o hi
    unfold S_laws_toVolS_3
    simp only [Bool.cond_eq_ite, decide_eq_true_eq, if_neg hi]
theorem toKeySS_eq (l : List E_s_Key) (hl : l.length ≤ 1048576) (hm : ∀ a ∈ l, F_laws_toKeyS a = some a) : F_laws_toKeySS l = some l := by
  unfold F_laws_toKeySS L_laws_toKeySS_3
  rw [if_pos (by omega), if_pos (Int.le_refl _), if_pos (by omega)]
  refine copy_loop z_s_Key (fun x => some x) l (by omega) ?_ ?_ _ (by simp)
  · intro again i o h0 h1 h2
    unfold S_laws_toKeySS_3
    have hw : Go.IntKind.wrap .i64 (i + 1) = i + 1 := w64 (by omega) (by omega)
    have h3 : i < (o.length : Int) := by omega
    have e : F_laws_toKeyS (rd_s_LKey l i) = some (rd_s_LKey l i) := hm _ (getD_mem z_s_Key l i h0 h1)
    simp only [Bool.cond_eq_ite, decide_eq_true_eq, h0, h1, h3, if_true, hw, e, Option.bind_some]
    rfl
  · intro again i o hi
    unfold S_laws_toKeySS_3
    simp only [Bool.cond_eq_ite, decide_eq_true_eq, if_neg hi]
theorem toNodeS_eq (l : List E_Node) (hl : l.length ≤ 1048576) (hm : ∀ a ∈ l, F_laws_toNode a = some a) : F_laws_toNodeS l = some l := by
  unfold F_laws_toNodeS L_laws_toNodeS_3
  rw [if_pos (by omega), if_pos (Int.le_refl _), if_pos (by omega)]
  refine copy_loop z_Node (fun x => some x) l (by omega) ?_ ?_ _ (by simp)
  · intro again i o h0 h1 h2
    unfold S_laws_toNodeS_3
    have hw : Go.IntKind.wrap .i64 (i + 1) = i + 1 := w64 (by omega) (by omega)
    have h3 : i < (o.length : Int) := by omega
    have e : F_laws_toNode (rd_LNode l i) = some (rd_LNode l i) := hm _ (getD_mem z_Node l i h0 h1)
    simp only [Bool.cond_eq_ite, decide_eq_true_eq, h0, h1, h3, if_true, hw, e, Option.bind_some]
    rfl
  · intro again i o hi
    unfold S_laws_toNodeS_3
    simp only [Bool.cond_eq_ite, decide_eq_true_eq, if_neg hi]
theorem eqIntS_refl (l : List E_i64) (hl : l.length ≤ 1048576) : F_laws_eqIntS (l, l) = some true := by
  unfold F_laws_eqIntS L_laws_eqIntS_4
  simp only [bne_self_eq_false, cond_false]
  refine eq_loop (fun _ => some true) l (by omega) ?_ ?_
  · intro again i h0 h1
    unfold S_laws_eqIntS_4
    have hw : Go.IntKind.wrap .i64 (i + 1) = i + 1 := w64 (by omega) (by omega)
    simp only [Bool.cond_eq_ite, decide_eq_true_eq, h0, h1, if_true, hw, if_true, Option.bind_some, bne_self_eq_false, beq_self_eq_true, Bool.not_true, Bool.false_eq_true, if_false]
  · intro again i hi
    unfold S_laws_eqIntS_4
    simp only [Bool.cond_eq_ite, decide_eq_true_eq, if_neg hi]
theorem eqKeyS_refl (l : List E_Key) (hl : l.length ≤ 1048576) : F_laws_eqKeyS (l, l) = some true := by
  unfold F_laws_eqKeyS L_laws_eqKeyS_4
  simp only [bne_self_eq_false, cond_false]
  refine eq_loop (fun _ => some true) l (by omega) ?_ ?_
  · intro again i h0 h1
    unfold S_laws_eqKeyS_4
    have hw : Go.IntKind.wrap .i64 (i + 1) = i + 1 := w64 (by omega) (by omega)
    simp only [Bool.cond_eq_ite, decide_eq_true_eq, h0, h1, if_true, hw, F_laws_eqKey, Option.bind_some, bne_self_eq_false, beq_self_eq_true, Bool.not_true, Bool.false_eq_true, if_false]
  · intro again i hi
    unfold S_laws_eqKeyS_4
    simp only [Bool.cond_eq_ite, decide_eq_true_eq, if_neg hi]
theorem eqAgeS_refl (l : List E_Age) (hl : l.length ≤ 1048576) : F_laws_eqAgeS (l, l) = some true := by
  unfold F_laws_eqAgeS L_laws_eqAgeS_4
  simp only [bne_self_eq_false, cond_false]
  refine eq_loop (fun _ => some true) l (by omega) ?_ ?_
  · intro again i h0 h1
    unfold S_laws_eqAgeS_4
    have hw : Go.IntKind.wrap .i64 (i + 1) = i + 1 := w64 (by omega) (by omega)
    simp only [Bool.cond_eq_ite, decide_eq_true_eq, h0, h1, if_true, hw, F_laws_eqAge, Option.bind_some, bne_self_eq_false, beq_self_eq_true, Bool.not_true, Bool.false_eq_true, if_false]
  · intro again i hi
    unfold S_laws_eqAgeS_4
    simp only [Bool.cond_eq_ite, decide_eq_true_eq, if_neg hi]
theorem eqCellS_refl (l : List E_Cell) (hl : l.length ≤ 1048576) : F_laws_eqCellS (l, l) = some true := by
  unfold F_laws_eqCellS L_laws_eqCellS_4
  simp only [bne_self_eq_false, cond_false]
  refine eq_loop (fun _ => some true) l (by omega) ?_ ?_
  · intro again i h0 h1
    unfold S_laws_eqCellS_4
    have hw : Go.IntKind.wrap .i64 (i + 1) = i + 1 := w64 (by omega) (by omega)
    simp only [Bool.cond_eq_ite, decide_eq_true_eq, h0, h1, if_true, hw, F_laws_eqCell, Option.bind_some, bne_self_eq_false, beq_self_eq_true, Bool.not_true, Bool.false_eq_true, if_false]
  · intro again i hi
    unfold S_laws_eqCellS_4
    simp only [Bool.cond_eq_ite, decide_eq_true_eq, if_neg hi]
theorem eqVolS_refl (l : List E_Vol) (hl : l.length ≤ 1048576) : F_laws_eqVolS (l, l) = some true := by
  unfold F_laws_eqVolS L_laws_eqVolS_4
  simp only [bne_self_eq_false, cond_false]
  refine eq_loop (fun _ => some true) l (by omega) ?_ ?_
  · intro again i h0 h1
    unfold S_laws_eqVolS_4
    have hw : Go.IntKind.wrap .i64 (i + 1) = i + 1 := w64 (by omega) (by omega)
    simp only [Bool.cond_eq_ite, decide_eq_true_eq, h0, h1, if_true, hw, F_laws_eqVol, Option.bind_some, bne_self_eq_false, beq_self_eq_true, Bool.not_true, Bool.false_eq_true, if_false]
  · intro again i hi
    unfold S_laws_eqVolS_4
    simp only [Bool.cond_eq_ite, decide_eq_true_eq, if_neg hi]
theorem eqKeySS_refl (l : List E_s_Key) (hl : l.length ≤ 1048576) (hm : ∀ a ∈ l, F_laws_eqKeyS (a, a) = some true) : F_laws_eqKeySS (l, l) = some true := by
  unfold F_laws_eqKeySS L_laws_eqKeySS_4
  simp only [bne_self_eq_false, cond_false]
  refine eq_loop (fun _ => some true) l (by omega) ?_ ?_
  · intro again i h0 h1
    unfold S_laws_eqKeySS_4
    have hw : Go.IntKind.wrap .i64 (i + 1) = i + 1 := w64 (by omega) (by omega)
    have e : F_laws_eqKeyS (rd_s_Key l i, rd_s_Key l i) = some true := hm _ (getD_mem z_s_Key l i h0 h1)
    simp only [Bool.cond_eq_ite, decide_eq_true_eq, h0, h1, if_true, hw, e, Option.bind_some, bne_self_eq_false, beq_self_eq_true, Bool.not_true, Bool.false_eq_true, if_false]
  · intro again i hi
    unfold S_laws_eqKeySS_4
    simp only [Bool.cond_eq_ite, decide_eq_true_eq, if_neg hi]
theorem eqNodeS_refl (l : List E_Node) (hl : l.length ≤ 1048576) (hm : ∀ a ∈ l, F_laws_eqNode (a, a) = some true) : F_laws_eqNodeS (l, l) = some true := by
  unfold F_laws_eqNodeS L_laws_eqNodeS_4
  simp only [bne_self_eq_false, cond_false]
  refine eq_loop (fun _ => some true) l (by omega) ?_ ?_
  · intro again i h0 h1
    unfold S_laws_eqNodeS_4
    have hw : Go.IntKind.wrap .i64 (i + 1) = i + 1 := w64 (by omega) (by omega)
    have e : F_laws_eqNode (rd_Node l i, rd_Node l i) = some true := hm _ (getD_mem z_Node l i h0 h1)
    simp only [Bool.cond_eq_ite, decide_eq_true_eq, h0, h1, if_true, hw, e, Option.bind_some, bne_self_eq_false, beq_self_eq_true, Bool.not_true, Bool.false_eq_true, if_false]
  · intro again i hi
    unfold S_laws_eqNodeS_4
    simp only [Bool.cond_eq_ite, decide_eq_true_eq, if_neg hi]
theorem sz_flat (n : Int) (m : Nat) (hn0 : 0 ≤ n) (hn1 : n ≤ 1048576) (hm : m ≤ maxLen) : szOk n m (bif decide (Go.IntKind.wrap .i64 (n - ((m : Nat) : Int)) < (0 : Int)) then some (-1 : Int) else some (Go.IntKind.wrap .i64 (n - ((m : Nat) : Int)))) := by
  simp only [maxLen] at hm
  rw [w64 (n := n - m) (by omega) (by omega)]
  simp only [Bool.cond_eq_ite, decide_eq_true_eq]
  by_cases h : n - m < 0
  · rw [if_pos h]
    exact ⟨-1, rfl, .inl (by omega)⟩
  · rw [if_neg h]
    exact ⟨_, rfl, .inr ⟨by omega, rfl⟩⟩
theorem szIntS_ok (l : List E_i64) (hl : l.length ≤ maxLen) (n : Int) (hn0 : 0 ≤ n) (hn1 : n ≤ 1048576) : szOk n (l.length : Nat) (F_laws_szIntS (l, n)) := sz_flat n l.length hn0 hn1 hl
theorem szKeyS_ok (l : List E_LKey) (hl : l.length ≤ maxLen) (n : Int) (hn0 : 0 ≤ n) (hn1 : n ≤ 1048576) : szOk n (l.length : Nat) (F_laws_szKeyS (l, n)) := sz_flat n l.length hn0 hn1 hl
theorem szAgeS_ok (l : List E_LAge) (hl : l.length ≤ maxLen) (n : Int) (hn0 : 0 ≤ n) (hn1 : n ≤ 1048576) : szOk n (l.length : Nat) (F_laws_szAgeS (l, n)) := sz_flat n l.length hn0 hn1 hl
theorem szCellS_ok (l : List E_LCell) (hl : l.length ≤ maxLen) (n : Int) (hn0 : 0 ≤ n) (hn1 : n ≤ 1048576) : szOk n (l.length : Nat) (F_laws_szCellS (l, n)) := sz_flat n l.length hn0 hn1 hl
theorem szKeySS_ok (l : List E_s_LKey) (hl : l.length ≤ maxLen) (hm : ∀ a ∈ l, List.length a ≤ maxLen) (n : Int) (hn0 : 0 ≤ n) (hn1 : n ≤ 1048576) : szOk n ((l.length : Int) + sumW (fun a : E_s_LKey => (List.length a : Int)) l) (F_laws_szKeySS (l, n)) := by
  simp only [maxLen] at hl
  unfold F_laws_szKeySS L_laws_szKeySS_5
  simp only [Bool.cond_eq_ite, decide_eq_true_eq]
  rw [w64 (n := n - l.length) (by omega) (by omega)]
  by_cases h : n - (l.length : Int) < 0
  · rw [if_pos h]
    exact ⟨-1, rfl, .inl (by omega)⟩
  · rw [if_neg h]
    have hs : ∀ again (n i r : Int), 0 ≤ i → i < (l.length : Int) → F_laws_szKeyS (l.getD i.toNat z_s_LKey, n) = some r → S_laws_szKeySS_5 (fun x2 => some x2.2) (fun x3 => some x3) again (l, n, i) = if r < 0 then some (-1 : Int) else again (l, r, i + 1) := by
      intro again n i r h0 h1 hr
      unfold S_laws_szKeySS_5
      have hw : Go.IntKind.wrap .i64 (i + 1) = i + 1 := w64 (by omega) (by omega)
      have hr' : F_laws_szKeyS ((rd_s_LKey l i), n) = some r := hr
      simp only [Bool.cond_eq_ite, decide_eq_true_eq, h0, h1, if_true, hw, hr', Option.bind_some]
    have hd : ∀ again (n i : Int), ¬ i < (l.length : Int) → S_laws_szKeySS_5 (fun x2 => some x2.2) (fun x3 => some x3) again (l, n, i) = some n := by
      intro again n i hi
      unfold S_laws_szKeySS_5
      simp only [Bool.cond_eq_ite, decide_eq_true_eq, if_neg hi]
    rcases sz_loop z_s_LKey (fun a : E_s_LKey => (List.length a : Int)) (fun a n => F_laws_szKeyS (a, n)) (step := S_laws_szKeySS_5 (fun x2 => some x2.2) (fun x3 => some x3)) (fun x2 => some x2.2) (fun x3 => some x3) l (by omega) (fun a => by exact Int.natCast_nonneg _) (fun a ha n h0 h1 => szKeyS_ok a (hm a ha) n h0 h1) hs hd (n - l.length) (by omega) (by omega) with ⟨r, e⟩ | ⟨r, r0, r1, e⟩
    · rw [e]
      exact ⟨-1, rfl, .inl (by omega)⟩
    · rw [e]
      exact ⟨r, rfl, .inr ⟨r0, by omega⟩⟩
def wSets (l : List E_s_LKey) : Int := (List.length l : Int) + sumW (fun a : E_s_LKey => (List.length a : Int)) l
theorem wSets_nonneg (l : List E_s_LKey) : 0 ≤ wSets l := by
  have := sumW_nonneg (w := fun a : E_s_LKey => (List.length a : Int)) (fun a => Int.natCast_nonneg _) l
  unfold wSets
  omega
theorem szNode_ok (l : List E_s_LKey) (hl : l.length ≤ maxLen) (hm : ∀ a ∈ l, List.length a ≤ maxLen) (n : Int) (hn0 : 0 ≤ n) (hn1 : n ≤ 1048576) : szOk n (wSets l) (F_laws_szNode (l, n)) := by
  obtain ⟨r, hr, hc⟩ := szKeySS_ok l hl hm n hn0 hn1
  unfold F_laws_szNode
  simp only [hr, Option.bind_some, Bool.cond_eq_ite, decide_eq_true_eq]
  rcases hc with hc | ⟨h0, h1⟩
  · rw [if_pos hc]
    exact ⟨-1, rfl, .inl (by omega)⟩
  · rw [if_neg (by omega)]
    exact ⟨r, rfl, .inr ⟨h0, h1⟩⟩
theorem szNodeS_ok (l : List E_LNode) (hl : l.length ≤ maxLen) (hm : ∀ a ∈ l, List.length a ≤ maxLen ∧ ∀ b ∈ (show List E_s_LKey from a), List.length b ≤ maxLen) (n : Int) (hn0 : 0 ≤ n) (hn1 : n ≤ 1048576) : szOk n ((l.length : Int) + sumW (wSets) l) (F_laws_szNodeS (l, n)) := by
  simp only [maxLen] at hl
  unfold F_laws_szNodeS L_laws_szNodeS_5
  simp only [Bool.cond_eq_ite, decide_eq_true_eq]
  rw [w64 (n := n - l.length) (by omega) (by omega)]
  by_cases h : n - (l.length : Int) < 0
  · rw [if_pos h]
    exact ⟨-1, rfl, .inl (by omega)⟩
  · rw [if_neg h]
    have hs : ∀ again (n i r : Int), 0 ≤ i → i < (l.length : Int) → F_laws_szNode (l.getD i.toNat z_LNode, n) = some r → S_laws_szNodeS_5 (fun x2 => some x2.2) (fun x3 => some x3) again (l, n, i) = if r < 0 then some (-1 : Int) else again (l, r, i + 1) := by
      intro again n i r h0 h1 hr
      unfold S_laws_szNodeS_5
      have hw : Go.IntKind.wrap .i64 (i + 1) = i + 1 := w64 (by omega) (by omega)
      have hr' : F_laws_szNode ((rd_LNode l i), n) = some r := hr
      simp only [Bool.cond_eq_ite, decide_eq_true_eq, h0, h1, if_true, hw, hr', Option.bind_some]
    have hd : ∀ again (n i : Int), ¬ i < (l.length : Int) → S_laws_szNodeS_5 (fun x2 => some x2.2) (fun x3 => some x3) again (l, n, i) = some n := by
      intro again n i hi
      unfold S_laws_szNodeS_5
      simp only [Bool.cond_eq_ite, decide_eq_true_eq, if_neg hi]
    rcases sz_loop z_LNode (wSets) (fun a n => F_laws_szNode (a, n)) (step := S_laws_szNodeS_5 (fun x2 => some x2.2) (fun x3 => some x3)) (fun x2 => some x2.2) (fun x3 => some x3) l (by omega) (fun a => by exact wSets_nonneg a) (fun a ha n h0 h1 => szNode_ok a (hm a ha).1 (hm a ha).2 n h0 h1) hs hd (n - l.length) (by omega) (by omega) with ⟨r, e⟩ | ⟨r, r0, r1, e⟩
    · rw [e]
      exact ⟨-1, rfl, .inl (by omega)⟩
    · rw [e]
      exact ⟨r, rfl, .inr ⟨r0, by omega⟩⟩
theorem szVolS_ok (l : List E_LVol) (hl : l.length ≤ maxLen) (hm : ∀ a ∈ l, ByteArray.size a.1 ≤ maxLen) (n : Int) (hn0 : 0 ≤ n) (hn1 : n ≤ 1048576) : szOk n ((l.length : Int) + sumW (fun a : E_LVol => (ByteArray.size a.1 : Int)) l) (F_laws_szVolS (l, n)) := by
  simp only [maxLen] at hl
  unfold F_laws_szVolS L_laws_szVolS_5
  simp only [Bool.cond_eq_ite, decide_eq_true_eq]
  rw [w64 (n := n - l.length) (by omega) (by omega)]
  by_cases h : n - (l.length : Int) < 0
  · rw [if_pos h]
    exact ⟨-1, rfl, .inl (by omega)⟩
  · rw [if_neg h]
    have hs : ∀ again (n i r : Int), 0 ≤ i → i < (l.length : Int) → F_laws_szVol ((l.getD i.toNat z_LVol).1, (l.getD i.toNat z_LVol).2.1, (l.getD i.toNat z_LVol).2.2.1, (l.getD i.toNat z_LVol).2.2.2, n) = some r → S_laws_szVolS_5 (fun x2 => some x2.2) (fun x3 => some x3) again (l, n, i) = if r < 0 then some (-1 : Int) else again (l, r, i + 1) := by
      intro again n i r h0 h1 hr
      unfold S_laws_szVolS_5
      have hw : Go.IntKind.wrap .i64 (i + 1) = i + 1 := w64 (by omega) (by omega)
      have hr' : F_laws_szVol ((rd_LVol l i).1, (rd_LVol l i).2.1, (rd_LVol l i).2.2.1, (rd_LVol l i).2.2.2, n) = some r := hr
      simp only [Bool.cond_eq_ite, decide_eq_true_eq, h0, h1, if_true, hw, hr', Option.bind_some]
    have hd : ∀ again (n i : Int), ¬ i < (l.length : Int) → S_laws_szVolS_5 (fun x2 => some x2.2) (fun x3 => some x3) again (l, n, i) = some n := by
      intro again n i hi
      unfold S_laws_szVolS_5
      simp only [Bool.cond_eq_ite, decide_eq_true_eq, if_neg hi]
    rcases sz_loop z_LVol (fun a : E_LVol => (ByteArray.size a.1 : Int)) (fun a n => F_laws_szVol (a.1, a.2.1, a.2.2.1, a.2.2.2, n)) (step := S_laws_szVolS_5 (fun x2 => some x2.2) (fun x3 => some x3)) (fun x2 => some x2.2) (fun x3 => some x3) l (by omega) (fun a => by exact Int.natCast_nonneg _) (fun a ha n h0 h1 => sz_flat n (ByteArray.size a.1) h0 h1 (hm a ha)) hs hd (n - l.length) (by omega) (by omega) with ⟨r, e⟩ | ⟨r, r0, r1, e⟩
    · rw [e]
      exact ⟨-1, rfl, .inl (by omega)⟩
    · rw [e]
      exact ⟨r, rfl, .inr ⟨r0, by omega⟩⟩
end Go.Proofs.Ytmofdkmggfdciaa.Pl
