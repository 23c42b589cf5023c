/- Oks, Trees, Names, PoolOk, PoolOk2, PoolOk3. No condition. -/
import Derived.Test.YtmofdkmggfdciaaGreatPWalk
set_option linter.all false
namespace Go.Proofs.YtmofdkmggfdciaaGreat.Pl
open Go.Proofs.YtmofdkmggfdciaaGreat.R Go.Proofs.YtmofdkmggfdciaaGreat.XO
def keyOkK (k : E_Key) : Bool := inR k.1 0 15 && (inR k.2.1 1 60 && (inR k.2.2.1 0 2 && (if k.2.2.1 = 1 then inR k.2.2.2.1 0 23 && inR k.2.2.2.2 0 999 else (k.2.2.2.1 == 0) && (k.2.2.2.2 == 0))))
theorem spec_KeyOk_eq (a b c d e : Int) : F_spec_KeyOk (a, b, c, d, e) = some (keyOkK (a, b, c, d, e)) := by
  unfold F_spec_KeyOk keyOkK
  simp only [l1In_eq, Option.bind_some]
  by_cases hc : c = 1
  · subst hc
    cases inR a 0 15 <;> cases inR b 1 60 <;> cases inR 1 0 2 <;> cases inR d 0 23 <;> rfl
  · have hc' : (c == 1) = false := by simpa using hc
    rw [hc', if_neg hc]
    cases inR a 0 15 <;> cases inR b 1 60 <;> cases inR c 0 2 <;> cases (d == 0) <;> rfl
theorem impl_KeyOk_eq (a b c d e : Int) : F_impl_KeyOk (a, b, c, d, e) = some (keyOkK (a, b, c, d, e)) := by
  unfold F_impl_KeyOk keyOkK
  simp only [within_eq, Option.bind_some]
  by_cases hc : c = 1
  · subst hc
    cases inR a 0 15 <;> cases inR b 1 60 <;> cases inR 1 0 2 <;> cases inR d 0 23 <;> rfl
  · have hc' : (c != 1) = true := by simpa using hc
    rw [hc', if_neg hc]
    cases inR a 0 15 <;> cases inR b 1 60 <;> cases inR c 0 2 <;> cases (d == 0) <;> rfl
def risesAt (l : List E_Key) (i : Int) (a : E_Key) : Bool := decide (0 < i) && !lessK (l.getD (i - 1).toNat z_Key) a
def setOkK (l : List E_Key) : Bool := !anyE (fun _ a => !keyOkK a) l 0 && (!anyE (risesAt l) l 0 && decide ((l.length : Int) ≤ 60))
theorem spec_Rises_eq (l : List E_Key) (hl : l.length ≤ 1073741824) : F_spec_l4Rises l = some (!anyE (risesAt l) l 0) := by
  unfold F_spec_l4Rises L_spec_l4Rises_2
  have key := runE_from (step := S_spec_l4Rises_2 (fun x2 => some x2) (fun x3 => some true)) (fun i (_ : Unit) => (l, i)) (fun i (s : Unit) a => if (decide (0 < i) && !lessK (l.getD (i - 1).toNat z_Key) a) = true ∨ i = 0 then .error (some false) else .ok s) (fun _ => some true) z_Key l (by omega) (fun i _ => 1 ≤ i) ?_ ?_ 1 (by omega) () (by decide)
  · rw [key]
    have h1 : anyE (risesAt l) l 0 = anyE (risesAt l) (l.drop 1) 1 := by
      cases l with
      | nil => rfl
      | cons a l => simp [anyE, risesAt]
    rw [h1]
    have h2 := runE_any (fun i a => decide ((decide (0 < i) && !lessK (l.getD (i - 1).toNat z_Key) a) = true ∨ i = 0)) (fun (s : Unit) _ => s) (some false) (fun _ => some true) (l.drop 1) 1 ()
    simp only [decide_eq_true_eq] at h2
    rw [show (1 : Int).toNat = 1 from rfl, h2]
    have h3 : anyE (fun i a => decide ((decide (0 < i) && !lessK (l.getD (i - 1).toNat z_Key) a) = true ∨ i = 0)) (l.drop 1) 1 = anyE (risesAt l) (l.drop 1) 1 := anyE_congr _ _ fun j a hj => by
      unfold risesAt
      have : ¬ j = 0 := by omega
      simp [this]
    rw [h3]
    cases anyE (risesAt l) (l.drop 1) 1 <;> rfl
  · intro again i s h0 h1 hI
    have hi : 1 ≤ i := by
      have : (1 : Nat) ≤ i.toNat := hI
      omega
    have hw : Go.IntKind.wrap .i64 (i + 1) = i + 1 := w64 (by omega) (by omega)
    have hm : Go.IntKind.wrap .i64 (i - 1) = i - 1 := w64 (by omega) (by omega)
    refine ⟨?_, fun _ _ => by omega⟩
    unfold S_spec_l4Rises_2
    obtain ⟨⟨x1, x2, x3, x4, x5⟩, hx⟩ : ∃ x, rd_Key l i = x := ⟨_, rfl⟩
    have hx' : l.getD i.toNat z_Key = (x1, x2, x3, x4, x5) := hx
    obtain ⟨⟨y1, y2, y3, y4, y5⟩, hy⟩ : ∃ y, rd_Key l (i - 1) = y := ⟨_, rfl⟩
    have hy' : l.getD (i - 1).toNat z_Key = (y1, y2, y3, y4, y5) := hy
    rw [hx', hy']
    have h3 : 0 ≤ i - 1 := by omega
    have h4 : i - 1 < (l.length : Int) := by omega
    have h5 : 0 < i := by omega
    have h6 : ¬ i = 0 := by omega
    simp only [Bool.cond_eq_ite, decide_eq_true_eq, h0, h1, if_true, hw, hm, hx, hy, h3, h4, h5, h6, spec_LessKey_eq, Option.bind_some, decide_true, Bool.true_and, or_false]
    cases lessK (y1, y2, y3, y4, y5) (x1, x2, x3, x4, x5) <;> rfl
  · intro again i s hi
    unfold S_spec_l4Rises_2
    simp only [Bool.cond_eq_ite, decide_eq_true_eq, if_neg hi]
theorem spec_SetOk_eq (l : List E_Key) (hl : l.length ≤ 1073741824) : F_spec_SetOk l = some (setOkK l) := by
  unfold F_spec_SetOk L_spec_SetOk_2 setOkK
  refine (any_loop0 (step := S_spec_SetOk_2 _ _) (fun i => (l, i)) (fun _ a => !keyOkK a) (some false) (some (!anyE (risesAt l) l 0 && decide ((l.length : Int) ≤ 60))) z_Key l (by omega) ?_ ?_).trans ?_
  · intro again i h0 h1
    have hw : Go.IntKind.wrap .i64 (i + 1) = i + 1 := w64 (by omega) (by omega)
    unfold S_spec_SetOk_2
    obtain ⟨⟨x1, x2, x3, x4, x5⟩, hx⟩ : ∃ x, rd_Key l i = x := ⟨_, rfl⟩
    have hx' : l.getD i.toNat z_Key = (x1, x2, x3, x4, x5) := hx
    rw [hx']
    simp only [Bool.cond_eq_ite, decide_eq_true_eq, h0, h1, if_true, hw, hx, spec_KeyOk_eq, Option.bind_some]
  · intro again i hi
    unfold S_spec_SetOk_2
    simp only [Bool.cond_eq_ite, decide_eq_true_eq, if_neg hi, spec_Rises_eq l hl, Option.bind_some]
    cases anyE (risesAt l) l 0 <;> rfl
  · cases anyE (fun _ a => !keyOkK a) l 0 <;> rfl
theorem impl_SetOk_eq (l : List E_Key) (hl : l.length ≤ 1073741824) : F_impl_SetOk l = some (setOkK l) := by
  unfold F_impl_SetOk L_impl_SetOk_2 setOkK
  refine (any_loop0 (step := S_impl_SetOk_2 _ _) (fun i => (l, l, (l.length : Int), i)) (fun i a => !keyOkK a || risesAt l i a) (some false) (some (decide ((l.length : Int) ≤ 60))) z_Key l (by omega) ?_ ?_).trans ?_
  · intro again i h0 h1
    have hw : Go.IntKind.wrap .i64 (i + 1) = i + 1 := w64 (by omega) (by omega)
    have hm : Go.IntKind.wrap .i64 (i - 1) = i - 1 := w64 (by omega) (by omega)
    unfold S_impl_SetOk_2 risesAt
    obtain ⟨⟨x1, x2, x3, x4, x5⟩, hx⟩ : ∃ x, rd_Key l i = x := ⟨_, rfl⟩
    have hx' : l.getD i.toNat z_Key = (x1, x2, x3, x4, x5) := hx
    obtain ⟨⟨y1, y2, y3, y4, y5⟩, hy⟩ : ∃ y, rd_Key l (i - 1) = y := ⟨_, rfl⟩
    have hy' : l.getD (i - 1).toNat z_Key = (y1, y2, y3, y4, y5) := hy
    rw [hx', hy']
    simp only [Bool.cond_eq_ite, decide_eq_true_eq, h0, h1, if_true, hw, hm, hx, hy, impl_KeyOk_eq, impl_LessKey_eq, Option.bind_some]
    cases keyOkK (x1, x2, x3, x4, x5)
    · rfl
    · by_cases h5 : 0 < i
      · have h3 : 0 ≤ i - 1 := by omega
        have h4 : i - 1 < (l.length : Int) := by omega
        simp only [gt_iff_lt, h5, h3, h4, if_true, decide_true]
        cases lessK (y1, y2, y3, y4, y5) (x1, x2, x3, x4, x5) <;> rfl
      · simp [h5]
  · intro again i hi
    unfold S_impl_SetOk_2
    simp only [Bool.cond_eq_ite, decide_eq_true_eq, if_neg hi]
  · rw [anyE_or]
    cases anyE (fun _ a => !keyOkK a) l 0 <;> cases anyE (risesAt l) l 0 <;> rfl
def badSet (_ : Int) (a : E_s_Key) : Bool := !setOkK a || ((List.length a : Int) == 0)
def cntOne (s : Int) (a : E_s_Key) : Int := Go.IntKind.wrap .i64 (s + (List.length a : Int))
def nodeOkK (n : List E_s_Key) : Bool := !anyE badSet n 0 && (decide ((n.length : Int) ≤ 3) && decide (n.foldl cntOne 0 ≤ 8))
theorem spec_Count_eq (n : List E_s_Key) (hn : n.length ≤ 1073741824) : F_spec_l5Count n = some (n.foldl cntOne 0) := by
  unfold F_spec_l5Count L_spec_l5Count_3
  refine fold_loop (step := S_spec_l5Count_3 _) (fun (i s : Int) => (s, i, n)) (fun s => some s) z_s_Key cntOne n (by omega) (fun _ _ => True) ?_ ?_ 0 trivial
  · intro again i s h0 h1 _
    have hw : Go.IntKind.wrap .i64 (i + 1) = i + 1 := w64 (by omega) (by omega)
    refine ⟨?_, trivial⟩
    unfold S_spec_l5Count_3
    simp only [Bool.cond_eq_ite, decide_eq_true_eq, h0, h1, if_true, hw]
    rfl
  · intro again i s hi
    unfold S_spec_l5Count_3
    simp only [Bool.cond_eq_ite, decide_eq_true_eq, if_neg hi]
theorem spec_NodeOk_eq (n : List E_s_Key) (hn : n.length ≤ 1073741824) (hm : ∀ s ∈ n, List.length s ≤ 1073741824) : F_spec_NodeOk n = some (nodeOkK n) := by
  unfold F_spec_NodeOk L_spec_NodeOk_2 nodeOkK
  refine (any_loop0 (step := S_spec_NodeOk_2 _ _) (fun i => (i, n)) badSet (some false) (some (decide ((n.length : Int) ≤ 3) && decide (n.foldl cntOne 0 ≤ 8))) z_s_Key n (by omega) ?_ ?_).trans ?_
  · intro again i h0 h1
    have hw : Go.IntKind.wrap .i64 (i + 1) = i + 1 := w64 (by omega) (by omega)
    have e := spec_SetOk_eq (rd_s_Key n i) (hm _ (getD_mem z_s_Key n i h0 h1))
    unfold S_spec_NodeOk_2 badSet
    have hx : n.getD i.toNat z_s_Key = rd_s_Key n i := rfl
    rw [hx]
    simp only [Bool.cond_eq_ite, decide_eq_true_eq, h0, h1, if_true, hw, e, Option.bind_some]
    cases setOkK (rd_s_Key n i)
    · rfl
    · rfl
  · intro again i hi
    unfold S_spec_NodeOk_2
    simp only [Bool.cond_eq_ite, decide_eq_true_eq, if_neg hi, spec_Count_eq n hn, Option.bind_some]
    by_cases h3 : (n.length : Int) ≤ 3 <;> simp [h3]
  · cases anyE badSet n 0 <;> rfl
theorem impl_NodeOk_eq (n : List E_s_Key) (hn : n.length ≤ 1073741824) (hm : ∀ s ∈ n, List.length s ≤ 1073741824) : F_impl_NodeOk n = some (nodeOkK n) := by
  unfold F_impl_NodeOk L_impl_NodeOk_3 nodeOkK
  refine (any_loop (step := S_impl_NodeOk_3 _ _) (fun (i s : Int) => (s, n, (n.length : Int), i, n)) badSet cntOne (some false) (fun s => some (decide ((n.length : Int) ≤ 3) && decide (s ≤ 8))) z_s_Key n (by omega) ?_ ?_ 0).trans ?_
  · intro again i s h0 h1
    have hw : Go.IntKind.wrap .i64 (i + 1) = i + 1 := w64 (by omega) (by omega)
    have e := impl_SetOk_eq (rd_s_Key n i) (hm _ (getD_mem z_s_Key n i h0 h1))
    unfold S_impl_NodeOk_3 badSet cntOne
    have hx : n.getD i.toNat z_s_Key = rd_s_Key n i := rfl
    rw [hx]
    simp only [Bool.cond_eq_ite, decide_eq_true_eq, h0, h1, if_true, hw, e, Option.bind_some]
    cases setOkK (rd_s_Key n i)
    · rfl
    · rfl
  · intro again i s hi
    unfold S_impl_NodeOk_3
    simp only [Bool.cond_eq_ite, decide_eq_true_eq, if_neg hi]
    by_cases h3 : (n.length : Int) ≤ 3 <;> simp [h3]
  · cases anyE badSet n 0 <;> rfl
end Go.Proofs.YtmofdkmggfdciaaGreat.Pl
namespace Go.Proofs.YtmofdkmggfdciaaGreat.Pl
open Go.Proofs.YtmofdkmggfdciaaGreat.R Go.Proofs.YtmofdkmggfdciaaGreat.XO
def spotK (a : E_Key) : Int := Go.IntKind.wrap .i64 (Go.IntKind.wrap .i64 ((64 : Int) * a.1) + a.2.1)
def outB (q : List Int) (i : Int) (_ : Int) (a : E_Key) : Bool := decide (spotK a < q.getD i.toNat 0) || (decide (i + 1 < (q.length : Int)) && decide (spotK a ≥ q.getD (i + 1).toNat 0))
theorem TOk.node {t : List E_Node} (h : TOk t) {n : List E_s_Key} (hn : n ∈ t) : n.length ≤ 1048576 ∧ ∀ s ∈ n, List.length s ≤ 1048576 := node_small h.sum hn
theorem TOk.sumK {t : List E_Node} (h : TOk t) {n : List E_s_Key} (hn : n ∈ t) : sumW lenK n ≤ 1048576 := by
  have h1 := (sumW_mem wSets_nonneg hn).1
  have h2 := wSets_ge n
  have h3 := h.sum
  omega
theorem spec_inner {R : Type} (k0 : (Int × Bool × Int × List E_i64 × List E_Node × List E_s_Key) → Option R) (k1 : (Int × Int × List E_i64 × List E_Node × List E_s_Key) → Option R) (i k : Int) (q : List Int) (t : List E_Node) (n : List E_s_Key) (hk0 : 0 ≤ k) (hk : k < (n.length : Int)) (hi0 : 0 ≤ i) (hi : i < (q.length : Int)) (hq : q.length ≤ 1048576) (hs : List.length (rd_s_Key n k) ≤ 1048576) :
    L_spec_l6Node_8 k0 k1 (i, k, 0, q, t, n) = if anyE (outB q i) (rd_s_Key n k) 0 = true then k0 (i, false, k, q, t, n) else k1 (i, k, q, t, n) := by
  unfold L_spec_l6Node_8
  refine any_loop0 (step := S_spec_l6Node_8 k0 k1) (fun j => (i, k, j, q, t, n)) (outB q i) _ _ z_Key (rd_s_Key n k) (by omega) ?_ ?_
  · intro again j h0 h1
    have hw : Go.IntKind.wrap .i64 (j + 1) = j + 1 := w64 (by omega) (by omega)
    have hwi : Go.IntKind.wrap .i64 (i + 1) = i + 1 := w64 (by omega) (by omega)
    unfold S_spec_l6Node_8 outB F_spec_l6Spot F_spec_SpotOf spotK
    obtain ⟨⟨x1, x2, x3, x4, x5⟩, hx⟩ : ∃ x, rd_Key (rd_s_Key n k) j = x := ⟨_, rfl⟩
    have hx' : (rd_s_Key n k).getD j.toNat z_Key = (x1, x2, x3, x4, x5) := hx
    have e1 : q.getD i.toNat 0 = rd_i64 q i := rfl
    have e2 : q.getD (i + 1).toNat 0 = rd_i64 q (i + 1) := rfl
    rw [hx', e1, e2]
    have hi1 : 0 ≤ i + 1 := by omega
    simp only [Bool.cond_eq_ite, decide_eq_true_eq, h0, h1, hk0, hk, hi0, hi, hi1, if_true, hw, hwi, hx, Option.bind_some]
    by_cases h2 : Go.IntKind.wrap .i64 (Go.IntKind.wrap .i64 ((64 : Int) * x1) + x2) < rd_i64 q i
    · simp [h2]
    · by_cases h3 : i + 1 < (q.length : Int)
      · simp [h2, h3]
      · simp [h2, h3]
  · intro again j hj
    unfold S_spec_l6Node_8
    simp only [Bool.cond_eq_ite, decide_eq_true_eq, hk0, hk, if_true, if_neg hj]
def outN (q : List Int) (i : Int) (_ : Int) (s : E_s_Key) : Bool := anyE (outB q i) s 0
def emptyN (n : E_Node) : Bool := ((nodeK n).length : Int) == 0
def nodeB (q : List Int) (i : Int) (n : E_Node) : Bool := nodeOkK n && (!(decide (0 < i) && emptyN n) && !anyE (outN q i) n 0)
theorem spec_l6Node_eq (q : List Int) (t : List E_Node) (i : Int) (ht : TOk t) (hi0 : 0 ≤ i) (hi : i < (t.length : Int)) (hq : q.length = t.length) : F_spec_l6Node (q, t, i) = some (nodeB q i (rd_Node t i)) := by
  have hmem : rd_Node t i ∈ t := getD_mem z_Node t i hi0 hi
  obtain ⟨hn, hs⟩ := ht.node hmem
  have hlen := ht.len
  have hq1 : i < (q.length : Int) := by omega
  have hq2 : q.length ≤ 1048576 := by omega
  have e1 := spec_NodeOk_eq (rd_Node t i) (by omega) (fun s hh => by have := hs s hh; omega)
  have e2 : F_spec_NodeKeys (rd_Node t i) = some (nodeK (rd_Node t i)) := spec_NodeKeys_eq _ (by omega) (ht.sumK hmem)
  unfold F_spec_l6Node nodeB emptyN
  simp only [hi0, hi, if_true, e1, Option.bind_some]
  generalize rd_Node t i = n at *
  cases nodeOkK n
  · rfl
  · have key : L_spec_l6Node_5 (fun x10 => some x10) (fun x11 => some true) (i, 0, q, t, n) = some (!anyE (outN q i) n 0) := by
      unfold L_spec_l6Node_5
      refine (any_loop0 (step := S_spec_l6Node_5 _ _) (fun k => (i, k, q, t, n)) (outN q i) (some false) (some true) z_s_Key n (by omega) ?_ ?_).trans ?_
      · intro again k h0 h1
        have hw : Go.IntKind.wrap .i64 (k + 1) = k + 1 := w64 (by omega) (by omega)
        have hsk : List.length (rd_s_Key n k) ≤ 1048576 := hs _ (getD_mem z_s_Key n k h0 h1)
        unfold S_spec_l6Node_5 outN
        have hx : n.getD k.toNat z_s_Key = rd_s_Key n k := rfl
        rw [hx]
        simp only [Bool.cond_eq_ite, decide_eq_true_eq, h1, if_true, spec_inner _ _ i k q t n h0 h1 hi0 hq1 hq2 hsk, hw]
      · intro again k hk
        unfold S_spec_l6Node_5
        simp only [Bool.cond_eq_ite, decide_eq_true_eq, if_neg hk]
      · cases anyE (outN q i) n 0 <;> rfl
    simp only [key, e2, Option.bind_some, Bool.not_true, cond_false, gt_iff_lt]
    by_cases h0 : 0 < i
    · simp only [h0, decide_true, cond_true, Bool.true_and]
      cases (((nodeK n).length : Int) == 0) <;> rfl
    · simp only [h0, decide_false, cond_false, Bool.false_and]
      rfl
theorem impl_inner {R : Type} (k0 : (Int × Bool × List E_s_Key × Int × Int × List E_i64 × List E_Node) → Option R) (k1 : (Int × List E_s_Key × Int × Int × List E_i64 × List E_Node) → Option R) (i k m : Int) (q : List Int) (t : List E_Node) (n : List E_s_Key) (s : List E_Key) (hi0 : 0 ≤ i) (hi : i < (q.length : Int)) (hq : q.length ≤ 1048576) (hs : s.length ≤ 1048576) :
    L_impl_inBounds_5 k0 k1 (i, n, m, k, s, (s.length : Int), 0, q, t) = if anyE (outB q i) s 0 = true then k0 (i, false, n, m, k, q, t) else k1 (i, n, m, k, q, t) := by
  unfold L_impl_inBounds_5
  refine any_loop0 (step := S_impl_inBounds_5 k0 k1) (fun j => (i, n, m, k, s, (s.length : Int), j, q, t)) (outB q i) _ _ z_Key s (by omega) ?_ ?_
  · intro again j h0 h1
    have hw : Go.IntKind.wrap .i64 (j + 1) = j + 1 := w64 (by omega) (by omega)
    have hwi : Go.IntKind.wrap .i64 (i + 1) = i + 1 := w64 (by omega) (by omega)
    unfold S_impl_inBounds_5 outB F_impl_SpotOf spotK
    obtain ⟨⟨x1, x2, x3, x4, x5⟩, hx⟩ : ∃ x, rd_Key s j = x := ⟨_, rfl⟩
    have hx' : s.getD j.toNat z_Key = (x1, x2, x3, x4, x5) := hx
    have e1 : q.getD i.toNat 0 = rd_i64 q i := rfl
    have e2 : q.getD (i + 1).toNat 0 = rd_i64 q (i + 1) := rfl
    rw [hx', e1, e2]
    have hi1 : 0 ≤ i + 1 := by omega
    simp only [Bool.cond_eq_ite, decide_eq_true_eq, h0, h1, hi0, hi, hi1, if_true, hw, hwi, hx, Option.bind_some]
    by_cases h2 : Go.IntKind.wrap .i64 (Go.IntKind.wrap .i64 ((64 : Int) * x1) + x2) < rd_i64 q i
    · simp [h2]
    · by_cases h3 : i + 1 < (q.length : Int)
      · simp [h2, h3]
      · simp [h2, h3]
  · intro again j hj
    unfold S_impl_inBounds_5
    simp only [Bool.cond_eq_ite, decide_eq_true_eq, if_neg hj]
theorem impl_inBounds_eq (q : List Int) (t : List E_Node) (i : Int) (ht : TOk t) (hi0 : 0 ≤ i) (hi : i < (t.length : Int)) (hq : q.length = t.length) : F_impl_inBounds (q, t, i) = some (!anyE (outN q i) (rd_Node t i) 0) := by
  have hmem : rd_Node t i ∈ t := getD_mem z_Node t i hi0 hi
  obtain ⟨hn, hs⟩ := ht.node hmem
  have hlen := ht.len
  have hq1 : i < (q.length : Int) := by omega
  have hq2 : q.length ≤ 1048576 := by omega
  unfold F_impl_inBounds L_impl_inBounds_2
  simp only [hi0, hi, if_true]
  generalize rd_Node t i = n at *
  refine (any_loop0 (step := S_impl_inBounds_2 _ _) (fun k => (i, n, (n.length : Int), k, q, t)) (outN q i) (some false) (some true) z_s_Key n (by omega) ?_ ?_).trans ?_
  · intro again k h0 h1
    have hw : Go.IntKind.wrap .i64 (k + 1) = k + 1 := w64 (by omega) (by omega)
    have hsk : List.length (rd_s_Key n k) ≤ 1048576 := hs _ (getD_mem z_s_Key n k h0 h1)
    unfold S_impl_inBounds_2 outN
    have hx : n.getD k.toNat z_s_Key = rd_s_Key n k := rfl
    rw [hx]
    simp only [Bool.cond_eq_ite, decide_eq_true_eq, h0, h1, if_true, impl_inner _ _ i k (n.length : Int) q t n _ hi0 hq1 hq2 hsk, hw]
  · intro again k hk
    unfold S_impl_inBounds_2
    simp only [Bool.cond_eq_ite, decide_eq_true_eq, if_neg hk]
  · cases anyE (outN q i) n 0 <;> rfl
def lowsB (q : List Int) (i : Int) : Bool := decide (0 < i) && decide (q.getD (i - 1).toNat 0 ≥ q.getD i.toNat 0)
def badNode (q : List Int) (i : Int) (n : E_Node) : Bool := lowsB q i || !nodeB q i n
def tallOne (s : Int) (n : E_Node) : Int := Go.IntKind.wrap .i64 (s + ((nodeK n).length : Int))
def treeOkK (q : List Int) (t : List E_Node) : Bool :=
  inR (t.length : Int) 1 20 && (decide (q.length = t.length) && ((q.getD 0 0 == 0) && (!anyE (badNode q) t 0 && decide (((treeK t).length : Int) ≤ 60))))
theorem tall_eq : ∀ (t : List E_Node) (s : List E_Key), (s.length : Int) + sumW wSets t ≤ 1048576 → t.foldl tallOne (s.length : Int) = ((t.foldl treeOne s).length : Int)
  | [], _, _ => rfl
  | n :: t, s, h => by
    rw [sumW_cons] at h
    have h1 := nodeK_len n
    have h2 := wSets_ge n
    have h3 := sumW_nonneg wSets_nonneg t
    have h4 : (treeOne s n).length = s.length + (nodeK n).length := List.length_append
    rw [List.foldl_cons, List.foldl_cons, show tallOne (s.length : Int) n = ((treeOne s n).length : Int) by
      unfold tallOne
      rw [h4, w64 (by omega) (by omega)]
      omega]
    exact tall_eq t (treeOne s n) (by rw [h4]; omega)
theorem spec_TreeOk_eq (q : List Int) (t : List E_Node) (ht : TOk t) : F_spec_TreeOk (q, t) = some (treeOkK q t) := by
  have hlen := ht.len
  unfold F_spec_TreeOk treeOkK
  simp only [l1In_eq, Option.bind_some]
  cases h1 : inR (t.length : Int) 1 20
  · rfl
  by_cases hq : q.length = t.length
  · have hq' : ((q.length : Int) != (t.length : Int)) = false := by simp [hq]
    have hpos : 0 < (q.length : Int) := by
      have := (inR_iff.1 h1).1
      omega
    have hd : decide (q.length = t.length) = true := by simp [hq]
    simp only [hq', hd, Bool.not_true, cond_false, cond_true, Option.bind_some, Bool.true_and]
    rw [if_pos (Int.le_refl _), if_pos (by omega)]
    have e0 : rd_i64 q 0 = q.getD 0 0 := rfl
    rw [e0]
    try simp only [Option.bind_some]
    by_cases hz : q.getD 0 0 = 0
    · have hz1 : (q.getD 0 0 != 0) = false := by rw [hz]; rfl
      have hz2 : (q.getD 0 0 == 0) = true := by rw [hz]; rfl
      rw [hz1, hz2]
      simp only [cond_false, Bool.true_and]
      unfold L_spec_TreeOk_4
      refine (any_loop0 (step := S_spec_TreeOk_4 _ _) (fun i => (i, q, t)) (badNode q) (some false) (some (decide (((treeK t).length : Int) ≤ 60))) z_Node t (by omega) ?_ ?_).trans ?_
      · intro again i h0 h1
        have hw : Go.IntKind.wrap .i64 (i + 1) = i + 1 := w64 (by omega) (by omega)
        have hm : Go.IntKind.wrap .i64 (i - 1) = i - 1 := w64 (by omega) (by omega)
        have e := spec_l6Node_eq q t i ht h0 h1 hq
        unfold S_spec_TreeOk_4 badNode lowsB
        have hx : t.getD i.toNat z_Node = rd_Node t i := rfl
        have e1 : q.getD i.toNat 0 = rd_i64 q i := rfl
        have e2 : q.getD (i - 1).toNat 0 = rd_i64 q (i - 1) := rfl
        rw [hx, e1, e2]
        simp only [Bool.cond_eq_ite, decide_eq_true_eq, h0, h1, if_true, hw, hm, e, gt_iff_lt]
        by_cases h5 : 0 < i
        · rw [if_pos h5, if_pos (by omega), if_pos (by omega), if_pos (by omega)]
          simp only [h5, decide_true, Option.bind_some, Bool.true_and]
          cases decide (rd_i64 q (i - 1) ≥ rd_i64 q i) <;> cases nodeB q i (rd_Node t i) <;> rfl
        · rw [if_neg h5]
          simp only [h5, decide_false, Option.bind_some, Bool.false_and]
          cases nodeB q i (rd_Node t i) <;> rfl
      · intro again i hi
        have e : F_spec_TreeKeys (q, t) = some (treeK t) := spec_TreeKeys_eq q t (by omega) ht.nodes ht.sum
        unfold S_spec_TreeOk_4
        simp only [Bool.cond_eq_ite, decide_eq_true_eq, if_neg hi, e, Option.bind_some]
      · cases anyE (badNode q) t 0 <;> rfl
    · have hz1 : (q.getD 0 0 != 0) = true := by simpa using hz
      have hz2 : (q.getD 0 0 == 0) = false := by simpa using hz
      rw [hz1, hz2]
      rfl
  · have hq' : ((q.length : Int) != (t.length : Int)) = true := by
      simp only [bne_iff_ne, ne_eq]
      omega
    have hd : decide (q.length = t.length) = false := by simp [hq]
    simp only [hq', hd, Bool.not_true, cond_false, cond_true, Option.bind_some, Bool.false_and, Bool.and_false]
theorem impl_TreeOk_eq (q : List Int) (t : List E_Node) (ht : TOk t) : F_impl_TreeOk (q, t) = some (treeOkK q t) := by
  have hlen := ht.len
  unfold F_impl_TreeOk treeOkK
  simp only [within_eq, Option.bind_some]
  cases h1 : inR (t.length : Int) 1 20
  · rfl
  by_cases hq : q.length = t.length
  · have hq' : ((q.length : Int) != (t.length : Int)) = false := by simp [hq]
    have hpos : 0 < (q.length : Int) := by
      have := (inR_iff.1 h1).1
      omega
    have hd : decide (q.length = t.length) = true := by simp [hq]
    simp only [hq', hd, Bool.not_true, cond_false, cond_true, Option.bind_some, Bool.true_and]
    rw [if_pos (Int.le_refl _), if_pos (by omega)]
    have e0 : rd_i64 q 0 = q.getD 0 0 := rfl
    rw [e0]
    try simp only [Option.bind_some]
    by_cases hz : q.getD 0 0 = 0
    · have hz1 : (q.getD 0 0 != 0) = false := by rw [hz]; rfl
      have hz2 : (q.getD 0 0 == 0) = true := by rw [hz]; rfl
      rw [hz1, hz2]
      simp only [cond_false, Bool.true_and]
      unfold L_impl_TreeOk_5
      refine (any_loop (step := S_impl_TreeOk_5 _ _) (fun (i s : Int) => (s, t, (t.length : Int), i, q, t)) (badNode q) tallOne (some false) (fun s => some (decide (s ≤ 60))) z_Node t (by omega) ?_ ?_ 0).trans ?_
      · intro again i s h0 h1
        have hmem : rd_Node t i ∈ t := getD_mem z_Node t i h0 h1
        obtain ⟨hn, hss⟩ := ht.node hmem
        have hw : Go.IntKind.wrap .i64 (i + 1) = i + 1 := w64 (by omega) (by omega)
        have hm : Go.IntKind.wrap .i64 (i - 1) = i - 1 := w64 (by omega) (by omega)
        have e3 := impl_NodeOk_eq (rd_Node t i) (by omega) (fun s hh => by have := hss s hh; omega)
        have e4 := impl_inBounds_eq q t i ht h0 h1 hq
        have e5 : F_impl_NodeKeys (rd_Node t i) = some (nodeK (rd_Node t i)) := impl_NodeKeys_eq _ (by omega) (ht.sumK hmem)
        unfold S_impl_TreeOk_5 badNode lowsB nodeB emptyN tallOne
        have hx : t.getD i.toNat z_Node = rd_Node t i := rfl
        have e1 : q.getD i.toNat 0 = rd_i64 q i := rfl
        have e2 : q.getD (i - 1).toNat 0 = rd_i64 q (i - 1) := rfl
        rw [hx, e1, e2]
        simp only [Bool.cond_eq_ite, decide_eq_true_eq, h0, h1, if_true, hw, hm, e3, e4, e5, gt_iff_lt, Option.bind_some]
        by_cases h5 : 0 < i
        · rw [if_pos h5, if_pos (by omega), if_pos (by omega), if_pos (by omega)]
          simp only [h5, decide_true, Option.bind_some, Bool.true_and, if_true]
          cases decide (rd_i64 q (i - 1) ≥ rd_i64 q i) <;> cases nodeOkK (rd_Node t i) <;> cases anyE (outN q i) (rd_Node t i) 0 <;> cases (((nodeK (rd_Node t i)).length : Int) == 0) <;> rfl
        · rw [if_neg h5]
          simp only [h5, decide_false, Option.bind_some, Bool.false_and, if_false]
          cases nodeOkK (rd_Node t i) <;> cases anyE (outN q i) (rd_Node t i) 0 <;> rfl
      · intro again i s hi
        unfold S_impl_TreeOk_5
        simp only [Bool.cond_eq_ite, decide_eq_true_eq, if_neg hi]
      · have := tall_eq t [] (by have := ht.sum; simpa using this)
        simp only [List.length_nil] at this
        rw [show ((0 : Nat) : Int) = 0 from rfl] at this
        rw [this]
        unfold treeK
        cases anyE (badNode q) t 0 <;> rfl
    · have hz1 : (q.getD 0 0 != 0) = true := by simpa using hz
      have hz2 : (q.getD 0 0 == 0) = false := by simpa using hz
      rw [hz1, hz2]
      rfl
  · have hq' : ((q.length : Int) != (t.length : Int)) = true := by
      simp only [bne_iff_ne, ne_eq]
      omega
    have hd : decide (q.length = t.length) = false := by simp [hq]
    simp only [hq', hd, Bool.not_true, cond_false, cond_true, Option.bind_some, Bool.false_and, Bool.and_false]
end Go.Proofs.YtmofdkmggfdciaaGreat.Pl
namespace Go.Proofs.YtmofdkmggfdciaaGreat.Pl
open Go.Proofs.YtmofdkmggfdciaaGreat.R Go.Proofs.YtmofdkmggfdciaaGreat.XO
def isW (n : Int) : Bool := inR n 0 65535
theorem l1Word_eq (x : Int) : F_spec_l1Word x = some (isW x) := by unfold F_spec_l1Word; rw [l1In_eq]; rfl
theorem isWord_eq (x : Int) : F_impl_isWord x = some (isW x) := by unfold F_impl_isWord; rw [within_eq]; rfl
def nameByte (c : Int) : Bool := inR c 97 122 || inR c 48 57
def nameAll (l : List UInt8) : Bool := l.all fun c => nameByte (c.toNat : Int)
def nameOk (s : ByteArray) : Bool := nameAll s.data.toList && inR s.size 1 6
theorem w64_byte (c : UInt8) : Go.IntKind.wrap .i64 (c.toNat : Int) = c.toNat := by
  have := c.toNat_lt
  exact w64 (by omega) (by omega)
theorem get_byte (s : ByteArray) (i : Nat) (h : i < s.size) : ByteArray.get s i h = s.data.toList[i]'(by rw [Array.length_toList]; exact h) := by
  rw [Array.getElem_toList]
  rfl
theorem drop_byte (s : ByteArray) (i : Nat) (h : i < s.size) : s.data.toList.drop i = ByteArray.get s i h :: s.data.toList.drop (i + 1) := by
  rw [get_byte, ← List.drop_eq_getElem_cons]
theorem spec_NameOk_eq (s : ByteArray) (hs : s.size ≤ maxLen) : F_spec_NameOk s = some (nameOk s) := by
  have hm : (s.size : Int) ≤ 9223372036854775807 := by simp only [maxLen] at hs; omega
  unfold F_spec_NameOk L_spec_NameOk_2
  rw [loop_fuel (fun t : ByteArray × Int => t.1.size - t.2.toNat) (fun t => t.1 = s ∧ 0 ≤ t.2 ∧ t.2 ≤ s.size) (fun t => if nameAll (t.1.data.toList.drop t.2.toNat) then some (inR s.size 1 6) else some false) ?_ (s, 0) ⟨rfl, by simp, by simp⟩ (by simp only [maxLen] at hs; simp; omega)]
  · unfold nameOk
    cases h : nameAll s.data.toList <;> simp [h]
  · rintro again ⟨s', i⟩ ⟨rfl, h0, h1⟩ hag
    simp only at h0 h1 hs hm ⊢
    unfold S_spec_NameOk_2
    simp only [Bool.cond_eq_ite, decide_eq_true_eq]
    by_cases hi : i < (s'.size : Int)
    · have hn : i.toNat < s'.size := by omega
      rw [if_pos hi, if_pos h0, dif_pos hn]
      simp only [l1In_eq, Option.bind_some, if_pos h0, dif_pos hn, w64_byte]
      rw [drop_byte s' i.toNat hn]
      have hw : Go.IntKind.wrap .i64 (i + 1) = i + 1 := w64 (by omega) (by omega)
      have e1 : (i + 1).toNat = i.toNat + 1 := by omega
      have hag' := hag (s', i + 1) ⟨rfl, by simp only; omega, by simp only; omega⟩ (by simp only; omega)
      simp only [nameAll, List.all_cons, nameByte] at hag' ⊢
      rw [hw, hag', e1]
      obtain ⟨c, hc⟩ : ∃ c, ByteArray.get s' i.toNat hn = c := ⟨_, rfl⟩
      simp only [hc]
      cases inR (c.toNat : Int) 97 122 <;> cases inR (c.toNat : Int) 48 57 <;> simp
    · rw [if_neg hi, List.drop_of_length_le (by rw [Array.length_toList]; show s'.size ≤ _; omega)]
      simp [nameAll, l1In_eq]
theorem impl_NameOk_eq (s : ByteArray) (hs : s.size ≤ maxLen) : F_impl_NameOk s = some (nameOk s) := by
  have hm : (s.size : Int) ≤ 9223372036854775807 := by simp only [maxLen] at hs; omega
  unfold F_impl_NameOk L_impl_NameOk_2
  rw [loop_fuel (fun t : ByteArray × Int => t.1.size - t.2.toNat) (fun t => t.1 = s ∧ 0 ≤ t.2 ∧ t.2 ≤ s.size) (fun t => if nameAll (t.1.data.toList.drop t.2.toNat) then some (inR s.size 1 6) else some false) ?_ (s, 0) ⟨rfl, by simp, by simp⟩ (by simp only [maxLen] at hs; simp; omega)]
  · unfold nameOk
    cases h : nameAll s.data.toList <;> simp [h]
  · rintro again ⟨s', i⟩ ⟨rfl, h0, h1⟩ hag
    simp only at h0 h1 hs hm ⊢
    unfold S_impl_NameOk_2
    simp only [Bool.cond_eq_ite, decide_eq_true_eq]
    by_cases hi : i < (s'.size : Int)
    · have hn : i.toNat < s'.size := by omega
      rw [if_pos hi, if_pos h0, dif_pos hn]
      simp only [within_eq, Option.bind_some, if_pos h0, dif_pos hn, w64_byte]
      rw [drop_byte s' i.toNat hn]
      have hw : Go.IntKind.wrap .i64 (i + 1) = i + 1 := w64 (by omega) (by omega)
      have e1 : (i + 1).toNat = i.toNat + 1 := by omega
      have hag' := hag (s', i + 1) ⟨rfl, by simp only; omega, by simp only; omega⟩ (by simp only; omega)
      simp only [nameAll, List.all_cons, nameByte] at hag' ⊢
      rw [hw, hag', e1]
      obtain ⟨c, hc⟩ : ∃ c, ByteArray.get s' i.toNat hn = c := ⟨_, rfl⟩
      simp only [hc]
      cases inR (c.toNat : Int) 97 122 <;> cases inR (c.toNat : Int) 48 57 <;> simp
    · rw [if_neg hi, List.drop_of_length_le (by rw [Array.length_toList]; show s'.size ≤ _; omega)]
      simp [nameAll, within_eq]
end Go.Proofs.YtmofdkmggfdciaaGreat.Pl
namespace Go.Proofs.YtmofdkmggfdciaaGreat.Pl
open Go.Proofs.YtmofdkmggfdciaaGreat.R Go.Proofs.YtmofdkmggfdciaaGreat.XO
def fore (l : List E_Age) (i : Int) : List E_Age := List.drop (Int.toNat (0 : Int)) (List.take (Int.toNat i) l)
def agesB (l : List E_Age) (i : Int) (a : E_Age) : Bool := !inR a.1 1 60 || ((decide (0 < i) && decide ((l.getD (i - 1).toNat z_Age).1 ≥ a.1)) || (a.2 != 0 && decide (ageAt (fore l i) a.2 < 0)))
def agesOkK (l : List E_Age) : Bool := !anyE (agesB l) l 0 && decide ((l.length : Int) ≤ 16)
theorem fore_len (l : List E_Age) (i : Int) : (fore l i).length ≤ l.length := by
  unfold fore
  simp only [List.length_drop, List.length_take]
  omega
theorem spec_AgesOk_eq (l : List E_Age) (hl : l.length ≤ 1048576) : F_spec_AgesOk l = some (agesOkK l) := by
  unfold F_spec_AgesOk L_spec_AgesOk_2 agesOkK
  refine (any_loop0 (step := S_spec_AgesOk_2 _ _) (fun i => (l, i)) (agesB l) (some false) (some (decide ((l.length : Int) ≤ 16))) z_Age l (by omega) ?_ ?_).trans ?_
  · intro again i h0 h1
    have hw : Go.IntKind.wrap .i64 (i + 1) = i + 1 := w64 (by omega) (by omega)
    have hm : Go.IntKind.wrap .i64 (i - 1) = i - 1 := w64 (by omega) (by omega)
    unfold S_spec_AgesOk_2 agesB
    obtain ⟨⟨x1, x2⟩, hx⟩ : ∃ x, rd_Age l i = x := ⟨_, rfl⟩
    have hx' : l.getD i.toNat z_Age = (x1, x2) := hx
    have hy : l.getD (i - 1).toNat z_Age = rd_Age l (i - 1) := rfl
    have e : F_spec_AgeAt (List.drop (Int.toNat (0 : Int)) (List.take (Int.toNat i) l), x2) = some (ageAt (fore l i) x2) := spec_AgeAt_eq (fore l i) x2 (by have := fore_len l i; omega)
    rw [hx', hy]
    have h2 : i ≤ (l.length : Int) := by omega
    simp only [Bool.cond_eq_ite, decide_eq_true_eq, h0, h1, h2, if_true, hw, hm, hx, l1In_eq, e, Option.bind_some, Int.le_refl, gt_iff_lt]
    cases inR x1 1 60
    · rfl
    · by_cases h5 : 0 < i
      · have h3 : 0 ≤ i - 1 := by omega
        have h4 : i - 1 < (l.length : Int) := by omega
        simp only [h5, h3, h4, if_true, decide_true]
        cases decide ((rd_Age l (i - 1)).1 ≥ x1) <;> cases (x2 != 0) <;> cases decide (ageAt (fore l i) x2 < 0) <;> rfl
      · simp only [h5, if_false, decide_false]
        cases (x2 != 0) <;> cases decide (ageAt (fore l i) x2 < 0) <;> rfl
  · intro again i hi
    unfold S_spec_AgesOk_2
    simp only [Bool.cond_eq_ite, decide_eq_true_eq, if_neg hi]
  · cases anyE (agesB l) l 0 <;> rfl
theorem impl_AgesOk_eq (l : List E_Age) (hl : l.length ≤ 1048576) : F_impl_AgesOk l = some (agesOkK l) := by
  unfold F_impl_AgesOk L_impl_AgesOk_2 agesOkK
  refine (any_loop0 (step := S_impl_AgesOk_2 _ _) (fun i => (l, l, (l.length : Int), i)) (agesB l) (some false) (some (decide ((l.length : Int) ≤ 16))) z_Age l (by omega) ?_ ?_).trans ?_
  · intro again i h0 h1
    have hw : Go.IntKind.wrap .i64 (i + 1) = i + 1 := w64 (by omega) (by omega)
    have hm : Go.IntKind.wrap .i64 (i - 1) = i - 1 := w64 (by omega) (by omega)
    unfold S_impl_AgesOk_2 agesB
    obtain ⟨⟨x1, x2⟩, hx⟩ : ∃ x, rd_Age l i = x := ⟨_, rfl⟩
    have hx' : l.getD i.toNat z_Age = (x1, x2) := hx
    have hy : l.getD (i - 1).toNat z_Age = rd_Age l (i - 1) := rfl
    have e : F_impl_AgeAt (List.drop (Int.toNat (0 : Int)) (List.take (Int.toNat i) l), x2) = some (ageAt (fore l i) x2) := impl_AgeAt_eq (fore l i) x2 (by have := fore_len l i; omega)
    rw [hx', hy]
    have h2 : i ≤ (l.length : Int) := by omega
    simp only [Bool.cond_eq_ite, decide_eq_true_eq, h0, h1, h2, if_true, hw, hm, hx, within_eq, e, Option.bind_some, Int.le_refl, gt_iff_lt]
    cases inR x1 1 60
    · rfl
    · by_cases h5 : 0 < i
      · have h3 : 0 ≤ i - 1 := by omega
        have h4 : i - 1 < (l.length : Int) := by omega
        simp only [h5, h3, h4, if_true, decide_true]
        cases decide ((rd_Age l (i - 1)).1 ≥ x1) <;> cases (x2 != 0) <;> cases decide (ageAt (fore l i) x2 < 0) <;> rfl
      · simp only [h5, if_false, decide_false]
        cases (x2 != 0) <;> cases decide (ageAt (fore l i) x2 < 0) <;> rfl
  · intro again i hi
    unfold S_impl_AgesOk_2
    simp only [Bool.cond_eq_ite, decide_eq_true_eq, if_neg hi]
  · cases anyE (agesB l) l 0 <;> rfl
def kidOne (id : Int) (s : List Int) (a : E_Age) : List Int := if (a.2 == id && id != 0) = true then s ++ [a.1] else s
def kidsOf (l : List E_Age) (id : Int) : List Int := l.foldl (kidOne id) []
theorem kidOne_len (id : Int) (s : List Int) (a : E_Age) : (kidOne id s a).length ≤ s.length + 1 := by
  unfold kidOne
  split <;> simp
theorem spec_KidsOf_eq (l : List E_Age) (id : Int) (hl : l.length ≤ 1048576) : F_spec_KidsOf (l, id) = some (kidsOf l id) := by
  unfold F_spec_KidsOf L_spec_KidsOf_3 kidsOf
  refine fold_loop (step := S_spec_KidsOf_3 _) (fun (i : Int) (s : List Int) => (l, id, i, s)) (fun s => some s) z_Age (kidOne id) l (by omega) (fun i s => s.length ≤ i) ?_ ?_ [] (by simp)
  · intro again i s h0 h1 hI
    have hw : Go.IntKind.wrap .i64 (i + 1) = i + 1 := w64 (by omega) (by omega)
    have hs := kidOne_len id s (l.getD i.toNat z_Age)
    refine ⟨?_, by omega⟩
    have c1 : (s.length + 1) * 8 < 140737488355328 := by omega
    clear hs
    unfold S_spec_KidsOf_3 kidOne
    obtain ⟨⟨x1, x2⟩, hx⟩ : ∃ x, rd_Age l i = x := ⟨_, rfl⟩
    have hx' : l.getD i.toNat z_Age = (x1, x2) := hx
    rw [hx']
    simp only [Bool.cond_eq_ite, decide_eq_true_eq, h0, h1, if_true, hw, hx, List.length_cons, List.length_nil, Nat.zero_add, c1]
    cases (x2 == id) <;> cases (id != 0) <;> rfl
  · intro again i s hi
    unfold S_spec_KidsOf_3
    simp only [Bool.cond_eq_ite, decide_eq_true_eq, if_neg hi]
theorem kids_none (l : List E_Age) : kidsOf l 0 = [] := by
  have : ∀ (l : List E_Age) (s : List Int), l.foldl (kidOne 0) s = s := by
    intro l
    induction l with
    | nil => intro s; rfl
    | cons a l ih =>
      intro s
      rw [List.foldl_cons, ih]
      unfold kidOne
      simp
  exact this l []
theorem impl_KidsOf_eq (l : List E_Age) (id : Int) (hl : l.length ≤ 1048576) : F_impl_KidsOf (l, id) = some (kidsOf l id) := by
  unfold F_impl_KidsOf
  by_cases hid : id = 0
  · subst hid
    rw [kids_none]
    rfl
  · have hid1 : (id == 0) = false := by simpa using hid
    have hid2 : (id != 0) = true := by simpa using hid
    simp only [hid1, cond_false]
    unfold L_impl_KidsOf_5 kidsOf
    refine fold_loop (step := S_impl_KidsOf_5 _) (fun (i : Int) (s : List Int) => (id, l, (l.length : Int), i, s)) (fun s => some s) z_Age (kidOne id) l (by omega) (fun i s => s.length ≤ i) ?_ ?_ [] (by simp)
    · intro again i s h0 h1 hI
      have hw : Go.IntKind.wrap .i64 (i + 1) = i + 1 := w64 (by omega) (by omega)
      have hs := kidOne_len id s (l.getD i.toNat z_Age)
      refine ⟨?_, by omega⟩
      have c1 : (s.length + 1) * 8 < 140737488355328 := by omega
      clear hs
      unfold S_impl_KidsOf_5 kidOne
      obtain ⟨⟨x1, x2⟩, hx⟩ : ∃ x, rd_Age l i = x := ⟨_, rfl⟩
      have hx' : l.getD i.toNat z_Age = (x1, x2) := hx
      rw [hx']
      simp only [Bool.cond_eq_ite, decide_eq_true_eq, h0, h1, if_true, hw, hx, List.length_cons, List.length_nil, Nat.zero_add, c1, hid2]
      cases (x2 == id) <;> rfl
    · intro again i s hi
      unfold S_impl_KidsOf_5
      simp only [Bool.cond_eq_ite, decide_eq_true_eq, if_neg hi]
def cellB (_ : Int) (a : E_Cell) : Bool := !inR a.1 0 999 || (!isW a.2.2 || (!a.2.1 && a.2.2 != 0))
def cellsOkK (l : List E_Cell) : Bool := !anyE cellB l 0 && ((l.length : Int) == 24)
theorem spec_CellsOk_eq (l : List E_Cell) (hl : l.length ≤ 1048576) : F_spec_CellsOk l = some (cellsOkK l) := by
  unfold F_spec_CellsOk L_spec_CellsOk_2 cellsOkK
  refine (any_loop0 (step := S_spec_CellsOk_2 _ _) (fun i => (l, i)) cellB (some false) (some ((l.length : Int) == 24)) z_Cell l (by omega) ?_ ?_).trans ?_
  · intro again i h0 h1
    have hw : Go.IntKind.wrap .i64 (i + 1) = i + 1 := w64 (by omega) (by omega)
    unfold S_spec_CellsOk_2 cellB
    obtain ⟨⟨x1, x2, x3⟩, hx⟩ : ∃ x, rd_Cell l i = x := ⟨_, rfl⟩
    have hx' : l.getD i.toNat z_Cell = (x1, x2, x3) := hx
    rw [hx']
    simp only [Bool.cond_eq_ite, decide_eq_true_eq, h0, h1, if_true, hw, hx, l1In_eq, l1Word_eq, Option.bind_some]
    cases inR x1 0 999 <;> cases isW x3 <;> cases x2 <;> cases (x3 != 0) <;> rfl
  · intro again i hi
    unfold S_spec_CellsOk_2
    simp only [Bool.cond_eq_ite, decide_eq_true_eq, if_neg hi]
  · cases anyE cellB l 0 <;> rfl
theorem impl_CellsOk_eq (l : List E_Cell) (hl : l.length ≤ 1048576) : F_impl_CellsOk l = some (cellsOkK l) := by
  unfold F_impl_CellsOk L_impl_CellsOk_2 cellsOkK
  refine (any_loop0 (step := S_impl_CellsOk_2 _ _) (fun i => (l, l, (l.length : Int), i)) cellB (some false) (some ((l.length : Int) == 24)) z_Cell l (by omega) ?_ ?_).trans ?_
  · intro again i h0 h1
    have hw : Go.IntKind.wrap .i64 (i + 1) = i + 1 := w64 (by omega) (by omega)
    unfold S_impl_CellsOk_2 cellB
    obtain ⟨⟨x1, x2, x3⟩, hx⟩ : ∃ x, rd_Cell l i = x := ⟨_, rfl⟩
    have hx' : l.getD i.toNat z_Cell = (x1, x2, x3) := hx
    rw [hx']
    simp only [Bool.cond_eq_ite, decide_eq_true_eq, h0, h1, if_true, hw, hx, within_eq, isWord_eq, Option.bind_some]
    cases inR x1 0 999 <;> cases isW x3 <;> cases x2 <;> cases (x3 != 0) <;> rfl
  · intro again i hi
    unfold S_impl_CellsOk_2
    simp only [Bool.cond_eq_ite, decide_eq_true_eq, if_neg hi]
  · cases anyE cellB l 0 <;> rfl
def usedOne (s : Int) (a : E_Cell) : Int := if a.2.1 = true then Go.IntKind.wrap .i64 (s + 1) else s
def usedK (l : List E_Cell) : Int := l.foldl usedOne 0
theorem spec_Used_eq (l : List E_Cell) (hl : l.length ≤ 1048576) : F_spec_UsedCells l = some (usedK l) := by
  unfold F_spec_UsedCells L_spec_UsedCells_3 usedK
  refine fold_loop (step := S_spec_UsedCells_3 _) (fun (i s : Int) => (l, s, i)) (fun s => some s) z_Cell usedOne l (by omega) (fun _ _ => True) ?_ ?_ 0 trivial
  · intro again i s h0 h1 _
    have hw : Go.IntKind.wrap .i64 (i + 1) = i + 1 := w64 (by omega) (by omega)
    refine ⟨?_, trivial⟩
    unfold S_spec_UsedCells_3 usedOne
    obtain ⟨⟨x1, x2, x3⟩, hx⟩ : ∃ x, rd_Cell l i = x := ⟨_, rfl⟩
    have hx' : l.getD i.toNat z_Cell = (x1, x2, x3) := hx
    rw [hx']
    simp only [Bool.cond_eq_ite, decide_eq_true_eq, h0, h1, if_true, hw, hx]
    cases x2 <;> rfl
  · intro again i s hi
    unfold S_spec_UsedCells_3
    simp only [Bool.cond_eq_ite, decide_eq_true_eq, if_neg hi]
theorem impl_Used_eq (l : List E_Cell) (hl : l.length ≤ 1048576) : F_impl_UsedCells l = some (usedK l) := by
  unfold F_impl_UsedCells L_impl_UsedCells_3 usedK
  refine fold_loop (step := S_impl_UsedCells_3 _) (fun (i s : Int) => (s, l, (l.length : Int), i)) (fun s => some s) z_Cell usedOne l (by omega) (fun _ _ => True) ?_ ?_ 0 trivial
  · intro again i s h0 h1 _
    have hw : Go.IntKind.wrap .i64 (i + 1) = i + 1 := w64 (by omega) (by omega)
    refine ⟨?_, trivial⟩
    unfold S_impl_UsedCells_3 usedOne
    obtain ⟨⟨x1, x2, x3⟩, hx⟩ : ∃ x, rd_Cell l i = x := ⟨_, rfl⟩
    have hx' : l.getD i.toNat z_Cell = (x1, x2, x3) := hx
    rw [hx']
    simp only [Bool.cond_eq_ite, decide_eq_true_eq, h0, h1, if_true, hw, hx]
    cases x2 <;> rfl
  · intro again i s hi
    unfold S_impl_UsedCells_3
    simp only [Bool.cond_eq_ite, decide_eq_true_eq, if_neg hi]
def cellAtK (l : List E_Cell) (i gen : Int) : Int × Bool :=
  if inR i 0 ((l.length : Int) - 1) && ((l.getD i.toNat z_Cell).2.1 && ((l.getD i.toNat z_Cell).1 == gen)) then ((l.getD i.toNat z_Cell).2.2, true) else (0, false)
theorem spec_CellAt_eq (l : List E_Cell) (i gen : Int) (hl : l.length ≤ 1048576) : F_spec_CellAt (l, i, gen) = some (cellAtK l i gen) := by
  unfold F_spec_CellAt cellAtK
  have hm : Go.IntKind.wrap .i64 ((l.length : Int) - 1) = (l.length : Int) - 1 := w64 (by omega) (by omega)
  obtain ⟨⟨x1, x2, x3⟩, hx⟩ : ∃ x, rd_Cell l i = x := ⟨_, rfl⟩
  have hx' : l.getD i.toNat z_Cell = (x1, x2, x3) := hx
  rw [hx']
  simp only [hm, hx, l1In_eq, Option.bind_some]
  by_cases hr : inR i 0 ((l.length : Int) - 1) = true
  · obtain ⟨h0, h1⟩ := inR_iff.1 hr
    rw [hr, if_pos h0, if_pos (by omega), if_pos h0, if_pos (by omega), if_pos h0, if_pos (by omega)]
    by_cases hg : x1 = gen
    · have g1 : (x1 != gen) = false := by simp [hg]
      have g2 : (x1 == gen) = true := by simp [hg]
      rw [g1, g2]
      cases x2 <;> rfl
    · have g1 : (x1 != gen) = true := by simpa using hg
      have g2 : (x1 == gen) = false := by simpa using hg
      rw [g1, g2]
      cases x2 <;> rfl
  · have : inR i 0 ((l.length : Int) - 1) = false := by simpa using hr
    rw [this]
    rfl
theorem impl_CellAt_eq (l : List E_Cell) (i gen : Int) (hl : l.length ≤ 1048576) : F_impl_CellAt (l, i, gen) = some (cellAtK l i gen) := by
  rw [← spec_CellAt_eq l i gen hl]
  unfold F_impl_CellAt F_spec_CellAt
  simp only [within_eq, l1In_eq]
end Go.Proofs.YtmofdkmggfdciaaGreat.Pl
namespace Go.Proofs.YtmofdkmggfdciaaGreat.Pl
open Go.Proofs.YtmofdkmggfdciaaGreat.R Go.Proofs.YtmofdkmggfdciaaGreat.XO
theorem find_any {A : Type} (p : A → Bool) : ∀ (l : List A) (i j : Int), 0 ≤ i → decide (0 ≤ findI p l i) = anyE (fun _ a => p a) l j
  | [], i, j, _ => rfl
  | a :: l, i, j, h => by
    rw [findI, anyE, ← find_any p l (i + 1) (j + 1) (by omega)]
    cases p a with
    | true => simp [h]
    | false => rfl
theorem getD_take {A : Type} (da : A) (l : List A) (i j : Int) (h0 : 0 ≤ j) (h : j < i) : (l.take i.toNat).getD j.toNat da = l.getD j.toNat da := by
  rw [List.getD_eq_getElem?_getD, List.getD_eq_getElem?_getD, List.getElem?_take, if_pos (by omega)]
theorem take_len {A : Type} (l : List A) (i : Int) (h0 : 0 ≤ i) (h : i ≤ (l.length : Int)) : ((l.take i.toNat).length : Int) = i := by
  rw [List.length_take]
  omega
def sameAge (age : Int) (_ : Int) (u : E_Vol) : Bool := u.2.1 == age
def volB (vs : List E_Vol) (l : List E_Age) (i : Int) (v : E_Vol) : Bool :=
  !nameOk v.1 || (!inR v.2.2.1 1 12 || (decide (ageAt l v.2.1 < 0) || (decide (((kidsOf l v.2.1).length : Int) > 0) || ((decide (0 < i) && !Go.Op.bytesLess (ByteArray.toList (vs.getD (i - 1).toNat z_Vol).1) (ByteArray.toList v.1)) || anyE (sameAge v.2.1) (vs.take i.toNat) 0))))
def volsOkK (vs : List E_Vol) (l : List E_Age) : Bool := !anyE (volB vs l) vs 0 && decide ((vs.length : Int) ≤ 6)
theorem spec_vols_inner {R : Type} (k0 : (Bool × Int × List E_i64 × List E_Node × List E_Age × List E_Cell × List E_Vol × Int) → Option R) (k1 : (Int × List E_i64 × List E_Node × List E_Age × List E_Cell × List E_Vol × Int) → Option R) (i : Int) (q : List Int) (t : List E_Node) (l : List E_Age) (cs : List E_Cell) (vs : List E_Vol) (z : Int) (v1 : ByteArray) (v2 v3 : Int) (v4 : Bool) (h0 : 0 ≤ i) (h1 : i ≤ (vs.length : Int)) (hv : vs.length ≤ 1048576) :
    L_spec_l10Vols_8 k0 k1 (i, 0, q, t, l, cs, vs, z, v1, v2, v3, v4) = if anyE (sameAge v2) (vs.take i.toNat) 0 = true then k0 (false, i, q, t, l, cs, vs, z) else k1 (i, q, t, l, cs, vs, z) := by
  unfold L_spec_l10Vols_8
  have hlen := take_len vs i h0 h1
  refine any_loop0 (step := S_spec_l10Vols_8 k0 k1) (fun k => (i, k, q, t, l, cs, vs, z, v1, v2, v3, v4)) (sameAge v2) _ _ z_Vol (vs.take i.toNat) (by omega) ?_ ?_
  · intro again k hk0 hk1
    rw [hlen] at hk1
    have hw : Go.IntKind.wrap .i64 (k + 1) = k + 1 := w64 (by omega) (by omega)
    have hk2 : k < (vs.length : Int) := by omega
    unfold S_spec_l10Vols_8 sameAge
    rw [getD_take z_Vol vs i k hk0 hk1]
    have hx : vs.getD k.toNat z_Vol = rd_Vol vs k := rfl
    rw [hx]
    simp only [Bool.cond_eq_ite, decide_eq_true_eq, hk0, hk1, hk2, if_true, hw]
  · intro again k hk
    rw [hlen] at hk
    unfold S_spec_l10Vols_8
    simp only [Bool.cond_eq_ite, decide_eq_true_eq, if_neg hk]
theorem spec_Vols_eq (q : List Int) (t : List E_Node) (l : List E_Age) (cs : List E_Cell) (vs : List E_Vol) (z : Int) (hl : l.length ≤ 1048576) (hv : vs.length ≤ 1048576) (hvn : ∀ v ∈ vs, ByteArray.size v.1 ≤ maxLen) : F_spec_l10Vols (q, t, l, cs, vs, z) = some (volsOkK vs l) := by
  unfold F_spec_l10Vols L_spec_l10Vols_2 volsOkK
  refine (any_loop0 (step := S_spec_l10Vols_2 _ _) (fun i => (i, q, t, l, cs, vs, z)) (volB vs l) (some false) (some (decide ((vs.length : Int) ≤ 6))) z_Vol vs (by omega) ?_ ?_).trans ?_
  · intro again i h0 h1
    have hw : Go.IntKind.wrap .i64 (i + 1) = i + 1 := w64 (by omega) (by omega)
    have hm : Go.IntKind.wrap .i64 (i - 1) = i - 1 := w64 (by omega) (by omega)
    have hmem := hvn _ (getD_mem z_Vol vs i h0 h1)
    unfold S_spec_l10Vols_2 volB
    obtain ⟨⟨x1, x2, x3, x4⟩, hx⟩ : ∃ x, rd_Vol vs i = x := ⟨_, rfl⟩
    have hx' : vs.getD i.toNat z_Vol = (x1, x2, x3, x4) := hx
    have hy : vs.getD (i - 1).toNat z_Vol = rd_Vol vs (i - 1) := rfl
    rw [hx'] at hmem
    rw [hx', hy]
    have e1 := spec_NameOk_eq x1 hmem
    have e2 := spec_AgeAt_eq l x2 (by omega)
    have e3 := spec_KidsOf_eq l x2 hl
    simp only [Bool.cond_eq_ite, decide_eq_true_eq, h0, h1, if_true, hw, hm, hx, l1In_eq, e1, e2, e3, spec_vols_inner _ _ i q t l cs vs z x1 x2 x3 x4 h0 (by omega) hv, Option.bind_some, gt_iff_lt]
    cases nameOk x1
    · rfl
    by_cases h5 : 0 < i
    · have h3 : 0 ≤ i - 1 := by omega
      have h4 : i - 1 < (vs.length : Int) := by omega
      simp only [h5, h3, h4, if_true, decide_true]
      by_cases ha : ageAt l x2 < 0 <;> by_cases hk : (0 : Int) < ((kidsOf l x2).length : Int) <;> simp only [ha, hk, if_true, if_false, decide_true, decide_false] <;> cases Go.Op.bytesLess (ByteArray.toList (rd_Vol vs (i - 1)).1) (ByteArray.toList x1) <;> cases inR x3 1 12 <;> cases anyE (sameAge x2) (vs.take i.toNat) 0 <;> rfl
    · simp only [h5, if_false, decide_false]
      by_cases ha : ageAt l x2 < 0 <;> by_cases hk : (0 : Int) < ((kidsOf l x2).length : Int) <;> simp only [ha, hk, if_true, if_false, decide_true, decide_false] <;> cases inR x3 1 12 <;> cases anyE (sameAge x2) (vs.take i.toNat) 0 <;> rfl
  · intro again i hi
    unfold S_spec_l10Vols_2
    simp only [Bool.cond_eq_ite, decide_eq_true_eq, if_neg hi]
  · cases anyE (volB vs l) vs 0 <;> rfl
theorem impl_dup_eq (l : List E_Vol) (v1 : ByteArray) (v2 v3 : Int) (v4 : Bool) (hl : l.length ≤ 1048576) : F_slices_ContainsFunc_Vol_impl_volsOk_1 (l, v1, v2, v3, v4) = some (anyE (sameAge v2) l 0, v1, v2, v3, v4) := by
  have key : F_slices_IndexFunc_Vol_impl_volsOk_1 (l, v1, v2, v3, v4) = some (findI (fun u : E_Vol => u.2.1 == v2) l 0, v1, v2, v3, v4) := by
    unfold F_slices_IndexFunc_Vol_impl_volsOk_1 L_slices_IndexFunc_Vol_impl_volsOk_1_2
    refine (find_loop (step := S_slices_IndexFunc_Vol_impl_volsOk_1_2 _ _) (fun i => (l, (l.length : Int), i, v1, v2, v3, v4)) (fun u : E_Vol => u.2.1 == v2) (fun x => some (x, v1, v2, v3, v4)) (some (-1, v1, v2, v3, v4)) z_Vol l (by omega) ?_ ?_).trans ?_
    · intro again i h0 h1
      have hw : Go.IntKind.wrap .i64 (i + 1) = i + 1 := w64 (by omega) (by omega)
      unfold S_slices_IndexFunc_Vol_impl_volsOk_1_2 F_impl_volsOk_1
      simp only [Bool.cond_eq_ite, decide_eq_true_eq, h0, h1, if_true, hw, Option.bind_some]
      rfl
    · intro again i hi
      unfold S_slices_IndexFunc_Vol_impl_volsOk_1_2
      simp only [Bool.cond_eq_ite, decide_eq_true_eq, if_neg hi]
    · rcases findI_spec (fun u : E_Vol => u.2.1 == v2) z_Vol l 0 (Int.le_refl _) with h | ⟨h1, h2, h3⟩
      · rw [h]
        rfl
      · rw [if_neg (by omega)]
  unfold F_slices_ContainsFunc_Vol_impl_volsOk_1
  rw [key]
  simp only [Option.bind_some, ge_iff_le]
  rw [find_any _ l 0 0 (Int.le_refl _)]
  rfl
theorem impl_Vols_eq (q : List Int) (t : List E_Node) (l : List E_Age) (cs : List E_Cell) (vs : List E_Vol) (z : Int) (hl : l.length ≤ 1048576) (hv : vs.length ≤ 1048576) (hvn : ∀ v ∈ vs, ByteArray.size v.1 ≤ maxLen) : F_impl_volsOk (q, t, l, cs, vs, z) = some (volsOkK vs l) := by
  unfold F_impl_volsOk L_impl_volsOk_2 volsOkK
  refine (any_loop0 (step := S_impl_volsOk_2 _ _) (fun i => (vs, (vs.length : Int), i, q, t, l, cs, vs, z)) (volB vs l) (some false) (some (decide ((vs.length : Int) ≤ 6))) z_Vol vs (by omega) ?_ ?_).trans ?_
  · intro again i h0 h1
    have hw : Go.IntKind.wrap .i64 (i + 1) = i + 1 := w64 (by omega) (by omega)
    have hm : Go.IntKind.wrap .i64 (i - 1) = i - 1 := w64 (by omega) (by omega)
    have hmem := hvn _ (getD_mem z_Vol vs i h0 h1)
    unfold S_impl_volsOk_2 volB
    obtain ⟨⟨x1, x2, x3, x4⟩, hx⟩ : ∃ x, rd_Vol vs i = x := ⟨_, rfl⟩
    have hx' : vs.getD i.toNat z_Vol = (x1, x2, x3, x4) := hx
    have hy : vs.getD (i - 1).toNat z_Vol = rd_Vol vs (i - 1) := rfl
    rw [hx'] at hmem
    rw [hx', hy]
    have e1 := impl_NameOk_eq x1 hmem
    have e2 := impl_AgeAt_eq l x2 (by omega)
    have e3 := impl_KidsOf_eq l x2 hl
    have e4 : F_slices_ContainsFunc_Vol_impl_volsOk_1 (List.drop (Int.toNat (0 : Int)) (List.take (Int.toNat i) vs), x1, x2, x3, x4) = some (anyE (sameAge x2) (vs.take i.toNat) 0, x1, x2, x3, x4) := impl_dup_eq (vs.take i.toNat) x1 x2 x3 x4 (by simp only [List.length_take]; omega)
    have h2 : i ≤ (vs.length : Int) := by omega
    simp only [Bool.cond_eq_ite, decide_eq_true_eq, h0, h1, h2, if_true, hw, hm, hx, within_eq, e1, e2, e3, e4, Option.bind_some, gt_iff_lt, Int.le_refl]
    cases nameOk x1
    · rfl
    by_cases h5 : 0 < i
    · have h3 : 0 ≤ i - 1 := by omega
      have h4 : i - 1 < (vs.length : Int) := by omega
      simp only [h5, h3, h4, if_true, decide_true]
      by_cases ha : ageAt l x2 < 0 <;> by_cases hk : (0 : Int) < ((kidsOf l x2).length : Int) <;> simp only [ha, hk, if_true, if_false, decide_true, decide_false] <;> cases Go.Op.bytesLess (ByteArray.toList (rd_Vol vs (i - 1)).1) (ByteArray.toList x1) <;> cases inR x3 1 12 <;> cases anyE (sameAge x2) (vs.take i.toNat) 0 <;> rfl
    · simp only [h5, if_false, decide_false]
      by_cases ha : ageAt l x2 < 0 <;> by_cases hk : (0 : Int) < ((kidsOf l x2).length : Int) <;> simp only [ha, hk, if_true, if_false, decide_true, decide_false] <;> cases inR x3 1 12 <;> cases anyE (sameAge x2) (vs.take i.toNat) 0 <;> rfl
  · intro again i hi
    unfold S_impl_volsOk_2
    simp only [Bool.cond_eq_ite, decide_eq_true_eq, if_neg hi]
  · cases anyE (volB vs l) vs 0 <;> rfl
end Go.Proofs.YtmofdkmggfdciaaGreat.Pl
namespace Go.Proofs.YtmofdkmggfdciaaGreat.Pl
open Go.Proofs.YtmofdkmggfdciaaGreat.R Go.Proofs.YtmofdkmggfdciaaGreat.XO
def dupCell (c : Int) (_ : Int) (u : E_Key) : Bool := (u.2.2.1 == 1) && (u.2.2.2.1 == c)
def keyB (ks : List E_Key) (l : List E_Age) (cs : List E_Cell) (i : Int) (a : E_Key) : Bool :=
  decide (ageAt l a.2.1 < 0) || ((a.2.2.1 == 1) && (!(cellAtK cs a.2.2.2.1 a.2.2.2.2).2 || anyE (dupCell a.2.2.2.1) (ks.take i.toNat) 0))
def datOne (n : Int) (a : E_Key) : Int := if (a.2.2.1 == 1) = true then Go.IntKind.wrap .i64 (n + 1) else n
def keysFitK (ks : List E_Key) (l : List E_Age) (cs : List E_Cell) : Bool := !anyE (keyB ks l cs) ks 0 && (ks.foldl datOne 0 == usedK cs)
theorem spec_keys_inner {R : Type} (k0 : (Bool × Int × Int × List E_i64 × List E_Node × List E_Age × List E_Cell × List E_Vol × Int × List E_Key) → Option R) (k1 : (Int × Int × List E_i64 × List E_Node × List E_Age × List E_Cell × List E_Vol × Int × List E_Key) → Option R) (n i : Int) (q : List Int) (t : List E_Node) (l : List E_Age) (cs : List E_Cell) (vs : List E_Vol) (z : Int) (ks : List E_Key) (h0 : 0 ≤ i) (h1 : i < (ks.length : Int)) (hk : ks.length ≤ 1048576) :
    L_spec_l10Keys_14 k0 k1 (n, i, 0, q, t, l, cs, vs, z, ks) = if anyE (dupCell (rd_Key ks i).2.2.2.1) (ks.take i.toNat) 0 = true then k0 (false, n, i, q, t, l, cs, vs, z, ks) else k1 (n, i, q, t, l, cs, vs, z, ks) := by
  unfold L_spec_l10Keys_14
  have hlen := take_len ks i h0 (by omega)
  refine any_loop0 (step := S_spec_l10Keys_14 k0 k1) (fun k => (n, i, k, q, t, l, cs, vs, z, ks)) (dupCell (rd_Key ks i).2.2.2.1) _ _ z_Key (ks.take i.toNat) (by omega) ?_ ?_
  · intro again k hk0 hk1
    rw [hlen] at hk1
    have hw : Go.IntKind.wrap .i64 (k + 1) = k + 1 := w64 (by omega) (by omega)
    have hk2 : k < (ks.length : Int) := by omega
    unfold S_spec_l10Keys_14 dupCell
    rw [getD_take z_Key ks i k hk0 hk1]
    have hx : ks.getD k.toNat z_Key = rd_Key ks k := rfl
    rw [hx]
    simp only [Bool.cond_eq_ite, decide_eq_true_eq, hk0, hk1, hk2, h0, h1, if_true, hw]
    cases ((rd_Key ks k).2.2.1 == 1) <;> cases ((rd_Key ks k).2.2.2.1 == (rd_Key ks i).2.2.2.1) <;> rfl
  · intro again k hk
    rw [hlen] at hk
    unfold S_spec_l10Keys_14
    simp only [Bool.cond_eq_ite, decide_eq_true_eq, if_neg hk]
theorem spec_keysFit_eq (q : List Int) (t : List E_Node) (l : List E_Age) (cs : List E_Cell) (vs : List E_Vol) (z : Int) (ht : TOk t) (hl : l.length ≤ 1048576) (hc : cs.length ≤ 1048576) : F_spec_l10Keys (q, t, l, cs, vs, z) = some (keysFitK (treeK t) l cs) := by
  unfold F_spec_l10Keys L_spec_l10Keys_4 keysFitK
  have hk := ht.keys
  have e : F_spec_TreeKeys (q, t) = some (treeK t) := spec_TreeKeys_eq q t (by have := ht.len; omega) ht.nodes ht.sum
  simp only [e, Option.bind_some]
  generalize treeK t = ks at hk
  refine (any_loop (step := S_spec_l10Keys_4 _ _) (fun (i n : Int) => (n, i, q, t, l, cs, vs, z, ks)) (keyB ks l cs) datOne (some false) (fun n => some (n == usedK cs)) z_Key ks (by omega) ?_ ?_ 0).trans ?_
  · intro again i n h0 h1
    have hw : Go.IntKind.wrap .i64 (i + 1) = i + 1 := w64 (by omega) (by omega)
    unfold S_spec_l10Keys_4 keyB datOne
    have hin := fun (k0 : (Bool × Int × Int × List E_i64 × List E_Node × List E_Age × List E_Cell × List E_Vol × Int × List E_Key) → Option Bool) k1 m => spec_keys_inner k0 k1 m i q t l cs vs z ks h0 h1 hk
    obtain ⟨⟨x1, x2, x3, x4, x5⟩, hx⟩ : ∃ x, rd_Key ks i = x := ⟨_, rfl⟩
    have hx' : ks.getD i.toNat z_Key = (x1, x2, x3, x4, x5) := hx
    rw [hx']
    rw [hx] at hin
    have e1 := spec_AgeAt_eq l x2 (by omega)
    have e2 := spec_CellAt_eq cs x4 x5 hc
    simp only [Bool.cond_eq_ite, decide_eq_true_eq, h0, h1, if_true, hw, hx, e1, e2, hin, Option.bind_some]
    by_cases ha : ageAt l x2 < 0
    · simp only [ha, if_true, decide_true, Bool.true_or]
    · simp only [ha, if_false, decide_false, Bool.false_or]
      by_cases h3 : x3 = 1
      · have g1 : (x3 == 1) = true := by simp [h3]
        have g2 : (x3 != 1) = false := by simp [h3]
        rw [g1, g2]
        cases (cellAtK cs x4 x5).2 <;> cases anyE (dupCell x4) (ks.take i.toNat) 0 <;> rfl
      · have g1 : (x3 == 1) = false := by simpa using h3
        have g2 : (x3 != 1) = true := by simpa using h3
        rw [g1, g2]
        rfl
  · intro again i n hi
    unfold S_spec_l10Keys_4
    simp only [Bool.cond_eq_ite, decide_eq_true_eq, if_neg hi, spec_Used_eq cs hc, Option.bind_some]
  · cases anyE (keyB ks l cs) ks 0 <;> rfl
theorem dup_succ (c : Int) : ∀ (l : List E_Key) (i : Int) (j : Nat), j < l.length → anyE (dupCell c) (l.take (j + 1)) i = (anyE (dupCell c) (l.take j) i || dupCell c 0 (l.getD j z_Key))
  | a :: l, i, 0, _ => by simp [anyE, dupCell]
  | a :: l, i, j + 1, h => by
    have := dup_succ c l (i + 1) j (by simpa using h)
    rw [List.take_succ_cons, anyE, this, List.take_succ_cons, anyE, List.getD_cons_succ, Bool.or_assoc]
def tkOne (s : Int × List Bool) (a : E_Key) : Int × List Bool := (datOne s.1 a, if (a.2.2.1 == 1) = true then s.2.set a.2.2.2.1.toNat true else s.2)
theorem tk_fst : ∀ (l : List E_Key) (s : Int × List Bool), (l.foldl tkOne s).1 = l.foldl datOne s.1
  | [], _ => rfl
  | a :: l, s => tk_fst l (tkOne s a)
theorem impl_keysFit_eq (q : List Int) (t : List E_Node) (l : List E_Age) (cs : List E_Cell) (vs : List E_Vol) (z : Int) (ht : TOk t) (hl : l.length ≤ 1048576) (hc : cs.length = 24) : F_impl_keysFit (q, t, l, cs, vs, z) = some (keysFitK (treeK t) l cs) := by
  unfold F_impl_keysFit L_impl_keysFit_4 keysFitK
  have hk := ht.keys
  have e : F_impl_TreeKeys (q, t) = some (treeK t) := impl_TreeKeys_eq q t (by have := ht.len; omega) ht.nodes ht.sum
  rw [if_pos (by omega), if_pos (Int.le_refl _), if_pos (by omega)]
  simp only [e, Option.bind_some]
  generalize treeK t = ks at hk
  refine (runE_from (step := S_impl_keysFit_4 _ _) (fun (i : Int) (s : Int × List Bool) => (s.1, (ks.length : Int), i, q, t, l, cs, vs, z, s.2, ks)) (fun i s a => if keyB ks l cs i a = true then .error (some false) else .ok (tkOne s a)) (fun s => some (s.1 == usedK cs)) z_Key ks (by omega) (fun j s => s.2.length = 24 ∧ ∀ c : Nat, c < 24 → s.2.getD c false = anyE (dupCell (c : Int)) (ks.take j) 0) ?_ ?_ 0 (Int.le_refl _) (0, List.replicate (Int.toNat 24) z_bool) ⟨rfl, fun c hc => ?_⟩).trans ?_
  · rintro again i ⟨n, tk⟩ h0 h1 ⟨hI1, hI2⟩
    simp only at hI1 hI2
    have hw : Go.IntKind.wrap .i64 (i + 1) = i + 1 := w64 (by omega) (by omega)
    obtain ⟨⟨x1, x2, x3, x4, x5⟩, hx⟩ : ∃ x, rd_Key ks i = x := ⟨_, rfl⟩
    have hx' : ks.getD i.toNat z_Key = (x1, x2, x3, x4, x5) := hx
    have hgd : ks.getD i.toNat z_Key = ks.getD i.toNat z_Key := rfl
    have e1 := impl_AgeAt_eq l x2 (by omega)
    have e2 := impl_CellAt_eq cs x4 x5 (by omega)
    have hcell : (cellAtK cs x4 x5).2 = true → 0 ≤ x4 ∧ x4 < 24 := fun h => by
      unfold cellAtK at h
      split at h
      · rename_i hh
        simp only [Bool.and_eq_true] at hh
        have := inR_iff.1 hh.1
        omega
      · cases h
    rw [hx']
    refine ⟨?_, fun s' hs' => ?_⟩
    · unfold S_impl_keysFit_4 keyB tkOne datOne
      simp only [Bool.cond_eq_ite, decide_eq_true_eq, h0, h1, if_true, hw, hx, e1, e2, Option.bind_some]
      by_cases ha : ageAt l x2 < 0
      · simp only [ha, if_true, decide_true, Bool.true_or]
      · simp only [ha, if_false, decide_false, Bool.false_or]
        by_cases h3 : x3 = 1
        · have g1 : (x3 == 1) = true := by simp [h3]
          have g2 : (x3 != 1) = false := by simp [h3]
          rw [g1, g2]
          cases hok : (cellAtK cs x4 x5).2 with
          | false => rfl
          | true =>
            obtain ⟨b0, b1⟩ := hcell hok
            have b2 : x4 < (tk.length : Int) := by omega
            have hrd : rd_bool tk x4 = anyE (dupCell x4) (ks.take i.toNat) 0 := by
              have := hI2 x4.toNat (by omega)
              rw [show ((x4.toNat : Nat) : Int) = x4 by omega] at this
              exact this
            simp only [b0, b2, if_true, hrd]
            cases anyE (dupCell x4) (ks.take i.toNat) 0 <;> rfl
        · have g1 : (x3 == 1) = false := by simpa using h3
          have g2 : (x3 != 1) = true := by simpa using h3
          rw [g1, g2]
          rfl
    · by_cases hb : keyB ks l cs i (x1, x2, x3, x4, x5) = true
      · rw [if_pos hb] at hs'
        cases hs'
      · rw [if_neg hb] at hs'
        injection hs' with hs'
        subst hs'
        have hsucc : ∀ c : Int, anyE (dupCell c) (ks.take (i.toNat + 1)) 0 = (anyE (dupCell c) (ks.take i.toNat) 0 || dupCell c 0 (x1, x2, x3, x4, x5)) := fun c => by
          rw [dup_succ c ks 0 i.toNat (by omega), hx']
        unfold tkOne
        simp only
        by_cases h3 : x3 = 1
        · have g1 : (x3 == 1) = true := by simp [h3]
          simp only [g1, if_true]
          have hok : (cellAtK cs x4 x5).2 = true := by
            unfold keyB at hb
            simp only [g1] at hb
            cases hh : (cellAtK cs x4 x5).2 with
            | true => rfl
            | false =>
              rw [hh] at hb
              simp at hb
          obtain ⟨b0, b1⟩ := hcell hok
          refine ⟨by simpa using hI1, fun c hc => ?_⟩
          rw [hsucc, ← hI2 c hc]
          unfold dupCell
          simp only [g1, Bool.true_and]
          rw [List.getD_eq_getElem?_getD, List.getD_eq_getElem?_getD]
          by_cases hcx : c = x4.toNat
          · rw [← hcx, List.getElem?_set_self (by omega)]
            have : (x4 == (c : Int)) = true := by
              simp only [beq_iff_eq]
              omega
            rw [this]
            simp
          · rw [List.getElem?_set_ne (fun h => hcx h.symm)]
            have : (x4 == (c : Int)) = false := by
              simp only [beq_eq_false_iff_ne, ne_eq]
              omega
            rw [this]
            simp
        · have g1 : (x3 == 1) = false := by simpa using h3
          simp only [g1, Bool.false_eq_true, if_false]
          refine ⟨hI1, fun c hc => ?_⟩
          rw [hsucc, ← hI2 c hc]
          unfold dupCell
          simp only [g1, Bool.false_and, Bool.or_false]
  · rintro again i ⟨n, tk⟩ hi
    unfold S_impl_keysFit_4
    simp only [Bool.cond_eq_ite, decide_eq_true_eq, if_neg hi, impl_Used_eq cs (by omega), Option.bind_some]
    rw [Bool.beq_comm]
  · show (List.replicate 24 false).getD c false = _
    rw [List.getD_eq_getElem?_getD, List.getElem?_replicate]
    simp [anyE, hc]
  · have := runE_any (keyB ks l cs) tkOne (some false) (fun s : Int × List Bool => some (s.1 == usedK cs)) ks 0 (0, List.replicate (Int.toNat 24) z_bool)
    rw [show (0 : Int).toNat = 0 from rfl, List.drop_zero, this, tk_fst]
    cases anyE (keyB ks l cs) ks 0 <;> rfl
def lateAge (z : Int) (_ : Int) (a : E_Age) : Bool := decide (a.1 ≥ z)
def poolOkK (q : List Int) (t : List E_Node) (l : List E_Age) (cs : List E_Cell) (vs : List E_Vol) (z : Int) : Bool :=
  treeOkK q t && (agesOkK l && (cellsOkK cs && (inR z 1 61 && (!anyE (lateAge z) l 0 && (volsOkK vs l && keysFitK (treeK t) l cs)))))
theorem spec_PoolOk_eq (q : List Int) (t : List E_Node) (l : List E_Age) (cs : List E_Cell) (vs : List E_Vol) (z : Int) (ht : TOk t) (hl : l.length ≤ 1048576) (hc : cs.length ≤ 1048576) (hv : vs.length ≤ 1048576) (hvn : ∀ v ∈ vs, ByteArray.size v.1 ≤ maxLen) : F_spec_PoolOk (q, t, l, cs, vs, z) = some (poolOkK q t l cs vs z) := by
  unfold F_spec_PoolOk L_spec_PoolOk_2 poolOkK
  refine (any_loop0 (step := S_spec_PoolOk_2 _ _) (fun i => (i, q, t, l, cs, vs, z)) (lateAge z) (some false) (some (treeOkK q t && (agesOkK l && (cellsOkK cs && (inR z 1 61 && (volsOkK vs l && keysFitK (treeK t) l cs)))))) z_Age l (by omega) ?_ ?_).trans ?_
  · intro again i h0 h1
    have hw : Go.IntKind.wrap .i64 (i + 1) = i + 1 := w64 (by omega) (by omega)
    unfold S_spec_PoolOk_2 lateAge
    have hx : l.getD i.toNat z_Age = rd_Age l i := rfl
    rw [hx]
    simp only [Bool.cond_eq_ite, decide_eq_true_eq, h0, h1, if_true, hw]
  · intro again i hi
    unfold S_spec_PoolOk_2
    simp only [Bool.cond_eq_ite, decide_eq_true_eq, if_neg hi, spec_TreeOk_eq q t ht, spec_AgesOk_eq l hl, spec_CellsOk_eq cs hc, l1In_eq, spec_Vols_eq q t l cs vs z hl hv hvn, spec_keysFit_eq q t l cs vs z ht hl hc, Option.bind_some]
    cases treeOkK q t <;> cases agesOkK l <;> cases cellsOkK cs <;> cases inR z 1 61 <;> cases volsOkK vs l <;> rfl
  · cases anyE (lateAge z) l 0 <;> cases treeOkK q t <;> cases agesOkK l <;> cases cellsOkK cs <;> cases inR z 1 61 <;> rfl
theorem impl_PoolOk_eq (q : List Int) (t : List E_Node) (l : List E_Age) (cs : List E_Cell) (vs : List E_Vol) (z : Int) (ht : TOk t) (hl : l.length ≤ 1048576) (hc : cs.length ≤ 1048576) (hv : vs.length ≤ 1048576) (hvn : ∀ v ∈ vs, ByteArray.size v.1 ≤ maxLen) : F_impl_PoolOk (q, t, l, cs, vs, z) = some (poolOkK q t l cs vs z) := by
  unfold F_impl_PoolOk poolOkK
  simp only [impl_TreeOk_eq q t ht, impl_AgesOk_eq l hl, impl_CellsOk_eq cs hc, within_eq, Option.bind_some]
  cases treeOkK q t
  · rfl
  cases agesOkK l
  · rfl
  cases hcc : cellsOkK cs
  · rfl
  cases inR z 1 61
  · rfl
  have hc24 : cs.length = 24 := by
    unfold cellsOkK at hcc
    simp only [Bool.and_eq_true, beq_iff_eq] at hcc
    omega
  simp only [Bool.not_true, cond_false, Option.bind_some, Bool.true_and]
  unfold L_impl_PoolOk_4
  refine (any_loop0 (step := S_impl_PoolOk_4 _ _) (fun i => (l, (l.length : Int), i, q, t, l, cs, vs, z)) (lateAge z) (some false) (some (volsOkK vs l && keysFitK (treeK t) l cs)) z_Age l (by omega) ?_ ?_).trans ?_
  · intro again i h0 h1
    have hw : Go.IntKind.wrap .i64 (i + 1) = i + 1 := w64 (by omega) (by omega)
    unfold S_impl_PoolOk_4 lateAge
    have hx : l.getD i.toNat z_Age = rd_Age l i := rfl
    rw [hx]
    simp only [Bool.cond_eq_ite, decide_eq_true_eq, h0, h1, if_true, hw]
  · intro again i hi
    unfold S_impl_PoolOk_4
    simp only [Bool.cond_eq_ite, decide_eq_true_eq, if_neg hi, impl_Vols_eq q t l cs vs z hl hv hvn, impl_keysFit_eq q t l cs vs z ht hl hc24, Option.bind_some]
    cases volsOkK vs l <;> rfl
  · cases anyE (lateAge z) l 0 <;> rfl
end Go.Proofs.YtmofdkmggfdciaaGreat.Pl
